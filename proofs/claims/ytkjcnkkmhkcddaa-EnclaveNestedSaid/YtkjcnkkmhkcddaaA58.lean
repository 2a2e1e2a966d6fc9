/-
  Parts of the proof, in the order in which they build: EMem, EzD, EzE.
-/
import Derived.Maps.AppendAt
import Derived.Test.YtkjcnkkmhkcddaaA55
import Derived.Test.YtkjcnkkmhkcddaaA14
import Derived.Test.YtkjcnkkmhkcddaaA56
import Derived.Test.YtkjcnkkmhkcddaaA46
import Derived.Test.YtkjcnkkmhkcddaaC1
set_option linter.unusedVariables false
set_option linter.unusedSimpArgs false
/-
  What a statement's walk keeps: rows that are only read, rows that are written, boxes.
-/
namespace Go.Proofs.Ytkjcnkkmhkcddaa
open Go.RowKit Go.Shelf
open Lim

structure Row where
  e : TypeId
  size : Nat
  v : Value
  n : Nat
  xs : List Value
def Row.Owned (r : Row) (W : World) (S : Nat) : Prop := W.ownsRow S r.e r.size r.v r.n r.xs
theorem owned_block {r : Row} {W : World} {S : Nat} (h : r.Owned W S) {k : Nat} (hk : r.v.ownBlock = some k) : S ≤ k ∧ k < W.heap.size ∧ ∃ cs, W.heap[k]? = some (.cells cs r.e (0, 0)) := by
  rcases h.2 with ⟨h1, -⟩ | ⟨g, cap, cur, h1, hB, hg, -⟩
  · rw [h1] at hk; cases hk
  · rw [h1] at hk
    have e : g = k := by simpa [Value.ownBlock] using hk
    subst e
    exact ⟨hB, (Array.getElem?_eq_some_iff.1 hg).1, cur, hg⟩
theorem owned_keep {r : Row} {W W' : World} {S : Nat} (h : r.Owned W S) (hk : ∀ k, r.v.ownBlock = some k → W'.heap[k]? = W.heap[k]?) : r.Owned W' S := by
  refine ⟨h.1, ?_⟩
  rcases h.2 with hn | ⟨g, cap, cur, h1, hB, hg, r'⟩
  · exact .inl hn
  · exact .inr ⟨g, cap, cur, h1, hB, (hk g (by rw [h1]; rfl)).trans hg, r'⟩
def nilRow (e : TypeId) (size : Nat) : Row := ⟨e, size, .slice none 0 0, 0, []⟩
theorem nilRow_owned (e size : Nat) (W : World) (S : Nat) : (nilRow e size).Owned W S := World.ownsRow_nil _ _ _ _
/-- two rows share no memory -/
def Row.Apart (r s : Row) : Prop := ∀ k, r.v.ownBlock = some k → s.v.ownBlock ≠ some k
theorem Row.Apart.symm {r s : Row} (h : r.Apart s) : s.Apart r := fun k h1 h2 => h k h2 h1
/-- from w on nothing below S has been changed; above it lie rows R that are only read, rows Q that are written, boxes X -/
structure Mem (w : World) (S : Nat) (R Q : List Row) (X : List (Nat × Obj)) (W : World) : Prop where
  b : Below S w W
  o : S ≤ W.heap.size
  r : ∀ r ∈ R, r.Owned W S
  q : ∀ r ∈ Q, r.Owned W S
  x : ∀ p ∈ X, S ≤ p.1 ∧ W.heap[p.1]? = some p.2
  xr : ∀ p ∈ X, ∀ r ∈ R, r.v.ownBlock ≠ some p.1
  xq : ∀ p ∈ X, ∀ r ∈ Q, r.v.ownBlock ≠ some p.1
  xx : X.Pairwise (fun p p' => p.1 ≠ p'.1)
  qq : Q.Pairwise Row.Apart
  qr : ∀ q ∈ Q, ∀ r ∈ R, q.Apart r
section
variable {w : World} {S : Nat} {R Q : List Row} {X : List (Nat × Obj)} {W W' : World}
theorem Mem.lt (H : Mem w S R Q X W) {p : Nat × Obj} (h : p ∈ X) : p.1 < W.heap.size := (Array.getElem?_eq_some_iff.1 (H.x p h).2).1
/-- all blocks that are spoken of stay as they are -/
theorem Mem.keep (H : Mem w S R Q X W) (hb : Below S w W') (hs : S ≤ W'.heap.size) (hk : ∀ k, S ≤ k → k < W.heap.size → W'.heap[k]? = W.heap[k]?) : Mem w S R Q X W' :=
  ⟨hb, hs,
   fun r hr => owned_keep (H.r r hr) (fun k h => let h1 := owned_block (H.r r hr) h; hk k h1.1 h1.2.1),
   fun r hr => owned_keep (H.q r hr) (fun k h => let h1 := owned_block (H.q r hr) h; hk k h1.1 h1.2.1),
   fun p hp => ⟨(H.x p hp).1, (hk p.1 (H.x p hp).1 (H.lt hp)).trans (H.x p hp).2⟩, H.xr, H.xq, H.xx, H.qq, H.qr⟩
theorem Mem.grow (H : Mem w S R Q X W) (hb : Below W.heap.size W W') : Mem w S R Q X W' :=
  H.keep (H.b.trans (hb.mono H.o)) (Nat.le_trans H.o hb.size) (fun k _ h2 => hb.block k h2)
theorem Mem.drew (H : Mem w S R Q X W) : Mem w S R Q X W.drew := H.grow (Below.refl _ _).drew
theorem Mem.drewN (H : Mem w S R Q X W) (n : Nat) : Mem w S R Q X (W.drewN n) := H.grow (below_drewN (Below.refl _ _) n)
theorem Mem.nilQ (H : Mem w S R Q X W) (e size : Nat) : Mem w S R (nilRow e size :: Q) X W := by
  refine ⟨H.b, H.o, H.r, fun q hq => ?_, H.x, H.xr, fun p hp q hq => ?_, H.xx, List.pairwise_cons.2 ⟨fun s hs k h1 h2 => (by cases h1), H.qq⟩, fun q hq s hs => ?_⟩
  · rcases List.mem_cons.1 hq with rfl | hq
    · exact nilRow_owned _ _ _ _
    · exact H.q q hq
  · rcases List.mem_cons.1 hq with rfl | hq
    · intro e; cases e
    · exact H.xq p hp q hq
  · rcases List.mem_cons.1 hq with rfl | hq
    · intro k h1; cases h1
    · exact H.qr q hq s hs
/-- a box that is laid -/
theorem Mem.lay (H : Mem w S R Q X W) (o : Obj) : Mem w S R Q ((W.heap.size, o) :: X) (W.alloc o) := by
  have H1 := H.grow ((Below.refl _ W).alloc (Nat.le_refl _) o)
  refine ⟨H1.b, H1.o, H1.r, H1.q, fun p hp => ?_, fun p hp r hr => ?_, fun p hp r hr => ?_, List.pairwise_cons.2 ⟨fun p hp e => ?_, H1.xx⟩, H1.qq, H1.qr⟩
  · rcases List.mem_cons.1 hp with rfl | hp
    · exact ⟨H.o, heap_alloc_new W o⟩
    · exact H1.x p hp
  · rcases List.mem_cons.1 hp with rfl | hp
    · intro e
      have := (owned_block (H.r r hr) e).2.1
      exact Nat.lt_irrefl _ this
    · exact H1.xr p hp r hr
  · rcases List.mem_cons.1 hp with rfl | hp
    · intro e
      have := (owned_block (H.q r hr) e).2.1
      exact Nat.lt_irrefl _ this
    · exact H1.xq p hp r hr
  · have h1 := H.lt hp
    have e : W.heap.size = p.1 := e
    omega
theorem Mem.less (H : Mem w S R Q X W) {R' Q' : List Row} {X' : List (Nat × Obj)} (hR : ∀ r ∈ R', r ∈ R) (hQ : Q'.Sublist Q) (hX : X'.Sublist X) : Mem w S R' Q' X' W :=
  ⟨H.b, H.o, fun r hr => H.r r (hR r hr), fun r hr => H.q r (hQ.subset hr), fun p hp => H.x p (hX.subset hp), fun p hp r hr => H.xr p (hX.subset hp) r (hR r hr), fun p hp r hr => H.xq p (hX.subset hp) r (hQ.subset hr), H.xx.sublist hX, H.qq.sublist hQ, fun q hq r hr => H.qr q (hQ.subset hq) r (hR r hr)⟩
/-- a row is written, or laid anew -/
theorem Mem.putQ {Q1 Q2 : List Row} {r r' : Row} (H : Mem w S R (Q1 ++ r :: Q2) X W) (hg : W.grownBy W' r.v.ownBlock) (ho : r'.Owned W' S) (hb : r'.v.ownBlock = r.v.ownBlock ∨ ∃ k, r'.v.ownBlock = some k ∧ W.heap.size ≤ k) : Mem w S R (Q1 ++ r' :: Q2) X W' := by
  have hrm : r ∈ Q1 ++ r :: Q2 := by simp
  have hlow : ∀ k, r.v.ownBlock = some k → S ≤ k ∧ k < W.heap.size := fun k h => let h1 := owned_block (H.q r hrm) h; ⟨h1.1, h1.2.1⟩
  have hS := H.o
  have hkeep : ∀ k, k < W.heap.size → r.v.ownBlock ≠ some k → W'.heap[k]? = W.heap[k]? := fun k h1 h2 => hg.block k h1 (fun e => h2 e.symm)
  have hp := List.pairwise_append.1 H.qq
  have hp2 := List.pairwise_cons.1 hp.2.1
  have hne : ∀ s, s ∈ Q1 ∨ s ∈ Q2 → s.Apart r := fun s hs => by
    rcases hs with hs | hs
    · exact hp.2.2 s hs r List.mem_cons_self
    · exact (hp2.1 s hs).symm
  have hmem : ∀ s, s ∈ Q1 ∨ s ∈ Q2 → s ∈ Q1 ++ r :: Q2 := fun s hs => by
    rcases hs with hs | hs
    · exact List.mem_append_left _ hs
    · exact List.mem_append_right _ (List.mem_cons_of_mem _ hs)
  have hsplit : ∀ s, s ∈ Q1 ++ r' :: Q2 → s = r' ∨ (s ∈ Q1 ∨ s ∈ Q2) := fun s hs => by
    rcases List.mem_append.1 hs with h | h
    · exact .inr (.inl h)
    · rcases List.mem_cons.1 h with h | h
      · exact .inl h
      · exact .inr (.inr h)
  -- the new row is apart from what is apart from the old one and old enough
  have hnew : ∀ k, r'.v.ownBlock = some k → k < W.heap.size → r.v.ownBlock = some k := fun k h1 h2 => by
    rcases hb with hb | ⟨j, h3, h4⟩
    · rw [← hb]; exact h1
    · rw [h3] at h1; cases h1; omega
  refine ⟨H.b.trans ?_, Nat.le_trans hS hg.size, fun s hs => ?_, fun s hs => ?_, fun p hp => ?_, H.xr, fun p hp s hs => ?_, H.xx, ?_, fun q hq s hs => ?_⟩
  · exact (Below.refl S W).grown hg H.o (fun k e => by have := hlow k e; omega)
  · exact owned_keep (H.r s hs) (fun k hk => hkeep k (owned_block (H.r s hs) hk).2.1 (fun e => H.qr r hrm s hs k e hk))
  · rcases hsplit s hs with rfl | hs
    · exact ho
    · exact owned_keep (H.q s (hmem s hs)) (fun k hk => hkeep k (owned_block (H.q s (hmem s hs)) hk).2.1 (fun e => hne s hs k hk e))
  · exact ⟨(H.x p hp).1, (hkeep p.1 (H.lt hp) (H.xq p hp r hrm)).trans (H.x p hp).2⟩
  · rcases hsplit s hs with rfl | hs
    · exact fun e => H.xq p hp r hrm (hnew p.1 e (H.lt hp))
    · exact H.xq p hp s (hmem s hs)
  · refine List.pairwise_append.2 ⟨hp.1, List.pairwise_cons.2 ⟨fun s hs k h1 h2 => ?_, hp2.2⟩, fun s hs t ht => ?_⟩
    · have h3 := (owned_block (H.q s (hmem s (.inr hs))) h2).2.1
      exact hp2.1 s hs k (hnew k h1 h3) h2
    · rcases List.mem_cons.1 ht with rfl | ht
      · intro k h1 h2
        have h3 := (owned_block (H.q s (hmem s (.inl hs))) h1).2.1
        exact hne s (.inl hs) k h1 (hnew k h2 h3)
      · exact hp.2.2 s hs t (List.mem_cons_of_mem _ ht)
  · rcases hsplit q hq with rfl | hq
    · intro k h1 h2
      have h3 := (owned_block (H.r s hs) h2).2.1
      exact H.qr r hrm s hs k (hnew k h1 h3) h2
    · exact H.qr q (hmem q hq) s hs
/-- a cell of a box is written -/
theorem Mem.putX {X1 X2 : List (Nat × Obj)} {p : Nat} {cs : Array Value} {t : TypeId} {fr : Nat × Nat} (H : Mem w S R Q (X1 ++ (p, .cells cs t fr) :: X2) W) (j : Nat) (v : Value) : Mem w S R Q (X1 ++ (p, .cells (cs.setIfInBounds j v) t fr) :: X2) (W.setCell ⟨p, j, none⟩ v) := by
  have hm : (p, Obj.cells cs t fr) ∈ X1 ++ (p, Obj.cells cs t fr) :: X2 := by simp
  have hS := H.o
  have hx := H.x _ hm
  have hx1 : S ≤ p := hx.1
  have hkeep : ∀ k, k ≠ p → (W.setCell ⟨p, j, none⟩ v).heap[k]? = W.heap[k]? := fun k hk => Below.heap_setCell W ⟨p, j, none⟩ v k hk
  have hp := List.pairwise_append.1 H.xx
  have hp2 := List.pairwise_cons.1 hp.2.1
  have hx1' : ∀ s, s ∈ X1 → s.1 ≠ p := fun s hs => hp.2.2 s hs _ List.mem_cons_self
  have hsplit : ∀ s, s ∈ X1 ++ (p, Obj.cells (cs.setIfInBounds j v) t fr) :: X2 → s = (p, Obj.cells (cs.setIfInBounds j v) t fr) ∨ (s ∈ X1 ++ (p, Obj.cells cs t fr) :: X2 ∧ s.1 ≠ p) := fun s hs => by
    rcases List.mem_append.1 hs with h | h
    · exact .inr ⟨List.mem_append_left _ h, hp.2.2 s h _ List.mem_cons_self⟩
    · rcases List.mem_cons.1 h with h | h
      · exact .inl h
      · exact .inr ⟨List.mem_append_right _ (List.mem_cons_of_mem _ h), fun e => hp2.1 s h e.symm⟩
  refine ⟨H.b.setCell (p := ⟨p, j, none⟩) (by show S ≤ p; omega) v, by rw [World.size_setCell]; exact hS, fun s hs => owned_keep (H.r s hs) (fun k hk => hkeep k (fun e => by subst e; exact H.xr _ hm s hs hk)), fun s hs => owned_keep (H.q s hs) (fun k hk => hkeep k (fun e => by subst e; exact H.xq _ hm s hs hk)), fun s hs => ?_, fun s hs r hr => ?_, fun s hs r hr => ?_, ?_, H.qq, H.qr⟩
  · rcases hsplit s hs with rfl | ⟨hs, hne⟩
    · exact ⟨hx1, heap_setCell_self v hx.2⟩
    · exact ⟨(H.x s hs).1, (hkeep s.1 hne).trans (H.x s hs).2⟩
  · rcases hsplit s hs with rfl | ⟨hs, hne⟩
    · exact H.xr _ hm r hr
    · exact H.xr s hs r hr
  · rcases hsplit s hs with rfl | ⟨hs, hne⟩
    · exact H.xq _ hm r hr
    · exact H.xq s hs r hr
  · exact List.pairwise_append.2 ⟨hp.1, List.pairwise_cons.2 ⟨fun s hs => hp2.1 s hs, hp2.2⟩, fun s hs t ht => by
      rcases List.mem_cons.1 ht with rfl | ht
      · exact hx1' s hs
      · exact hp.2.2 s hs t (List.mem_cons_of_mem _ ht)⟩
end
def rwI (v : Value) (n : Nat) (l : List Int) : Row := ⟨3, 1, v, n, ints l⟩
theorem form_pos {W : World} {r : Row} {S : Nat} (h : r.Owned W S) (hn : 0 < r.n) : ∃ g cap, r.v = .slice (some ⟨g, 0, none⟩) r.n cap := by
  rcases h.2 with ⟨h1, h2⟩ | ⟨g, cap, cur, h1, -⟩
  · omega
  · exact ⟨g, cap, h1⟩
section
variable {w : World} {S : Nat} {R Q : List Row} {X : List (Nat × Obj)} {W W' : World}
theorem Mem.own (H : Mem w S R Q X W) {r : Row} (h : r ∈ R ∨ r ∈ Q) : r.Owned W S := h.elim (H.r r) (H.q r)
theorem Mem.rsI (H : Mem w S R Q X W) {v : Value} {n : Nat} {l : List Int} (h : rwI v n l ∈ R ∨ rwI v n l ∈ Q) (hn : l.length = n) : RS W.heap.size W v l.length (ints l) := by subst hn; exact RS.of_owns (H.own h)
end
section
variable {w : World} {S : Nat} {R Q : List Row} {X : List (Nat × Obj)} {W W' : World}
end
section
variable {w : World} {S : Nat} {R Q : List Row} {X : List (Nat × Obj)} {W W' : World}
end

theorem Mem.nil {w W : World} (hb : Below w.heap.size w W) : Mem w w.heap.size [] [] [] W :=
  ⟨hb, hb.size, fun _ h => absurd h List.not_mem_nil, fun _ h => absurd h List.not_mem_nil, fun _ h => absurd h List.not_mem_nil, fun _ h => absurd h List.not_mem_nil, fun _ h => absurd h List.not_mem_nil, List.Pairwise.nil, List.Pairwise.nil, fun _ h => absurd h List.not_mem_nil⟩
section
variable {w : World} {S : Nat} {R Q : List Row} {X : List (Nat × Obj)} {W W' : World}
theorem Mem.box2 (H : Mem w S R Q X W) {q : Nat} {a b : Value} {t : TypeId} (h : (q, Obj.cells #[a, b] t (0, 0)) ∈ X) : W.cell? ⟨q, 0, none⟩ = some a ∧ W.cell? ⟨q, 1, none⟩ = some b ∧ W.frozen? ⟨q, 0, none⟩ = false ∧ W.frozen? ⟨q, 1, none⟩ = false := by
  have h1 := (H.x _ h).2
  refine ⟨?_, ?_, ?_, ?_⟩ <;> simp [World.cell?, World.frozen?, h1]
/-- a number more behind a row -/
theorem Mem.push {Q1 Q2 : List Row} {v v' : Value} {n : Nat} {l : List Int} {x : Int} (H : Mem w S R (Q1 ++ rwI v n l :: Q2) X W) (ho : W'.ownsRow S 3 1 v' (n + 1) (ints l ++ [.int .i64 x])) (hg : W.grownBy W' v.ownBlock) (hb : v'.ownBlock = v.ownBlock ∨ v'.ownBlock = some W.heap.size) : Mem w S R (Q1 ++ rwI v' (n + 1) (l ++ [x]) :: Q2) X W' :=
  H.putQ (r' := rwI v' (n + 1) (l ++ [x])) hg (by
    show W'.ownsRow S 3 1 v' (n + 1) (ints (l ++ [x]))
    simpa [ints] using ho) (hb.imp id fun h => ⟨_, h, Nat.le_refl _⟩)
end
end Go.Proofs.Ytkjcnkkmhkcddaa
/-
  A table of yes and no: rows of bools under a list of lists.
-/
namespace Go.Proofs.Ytkjcnkkmhkcddaa
open Go.RowKit Go.Shelf
open Lim

attribute [local go_sem] Oper.semAt_some

theorem made_tab {w : World} {i : TypeInfo} (hi : Try.prog.info? 74 = some i ∧ i.zero = some (.slice none 0 0) ∧ i.size = 1 ∧ i.bytes = 24) {n : Nat} (hn : n ≤ 1000) :
    (Instr.makeSlice 73 (.int .i64 (n : Int)) (.int .i64 (n : Int))).run Try.prog w = .ok (.slice (some ⟨w.heap.size, 0, none⟩) n n) (w.alloc (.cells (Array.replicate n (.slice none 0 0)) 74)) := by
  have h := run_make (P := Try.prog) w 73 74 i (.slice none 0 0) Try.underlying73 hi.1 hi.2.1 .i64 .i64 n n (by omega) (by omega) (by rw [hi.2.2.2]; omega) (by omega)
  rw [h, hi.2.2.1]
  simp only [Int.toNat_natCast, Nat.mul_one]
  have e : madeCells (Value.slice none 0 0).cells n = Array.replicate n (Value.slice none 0 0) := by
    show madeCells #[Value.slice none 0 0] n = _
    rw [← Array.toList_inj, toList_madeCells_one, Array.toList_replicate]
  rw [e]
/-- the first t rows of a table of k by k -/
structure TabB (W0 : World) (gi k : Nat) (G : Nat → Nat) (t : Nat) (D : Nat → Nat → Bool) (W : World) : Prop where
  be : Below W0.heap.size W0 W
  oc : ∀ a, a < t → W.cell? ⟨gi, a, none⟩ = some (.slice (some ⟨G a, 0, none⟩) k k)
  on' : ∀ a, t ≤ a → a < k → W.cell? ⟨gi, a, none⟩ = some (.slice none 0 0)
  of : ∀ a, a < k → W.frozen? ⟨gi, a, none⟩ = false
  rows : ∀ a, a < t → RowB W (G a) k (D a)
  ge : W0.heap.size ≤ gi ∧ gi < W.heap.size ∧ t ≤ k
  gt : ∀ a, a < t → gi < G a
  dj : ∀ a b, a < t → b < t → a ≠ b → G a ≠ G b
section
variable {W0 W W' : World} {gi k t : Nat} {G : Nat → Nat} {D : Nat → Nat → Bool}
theorem TabB.on (h : TabB W0 gi k G t D W) (hb : Below W.heap.size W W') : TabB W0 gi k G t D W' :=
  ⟨h.be.trans (hb.mono h.be.size), fun a ha => hb.on (h.oc a ha), fun a h1 h2 => hb.on (h.on' a h1 h2), fun a ha => by
    by_cases e : a < t
    · exact frozen_on hb (h.oc a e) (h.of a ha)
    · exact frozen_on hb (h.on' a (by omega) ha) (h.of a ha), fun a ha => (h.rows a ha).grow hb, ⟨h.ge.1, Nat.lt_of_lt_of_le h.ge.2.1 hb.size, h.ge.2.2⟩, h.gt, h.dj⟩
theorem TabB.put (h : TabB W0 gi k G t D W) {a b : Nat} (ha : a < t) (hb : b < k) (v : Bool) : TabB W0 gi k G t (fun x y => if x = a ∧ y = b then v else D x y) (W.setCell ⟨G a, b, none⟩ (.bool v)) := by
  have hg := h.gt a ha
  have hs := Sep.set W (G a) b (.bool v)
  refine ⟨h.be.setCell (p := ⟨G a, b, none⟩) (by have := h.ge.1; show _ ≤ G a; omega) _, fun x hx => hs.cell (h.oc x hx) (by omega), fun x h1 h2 => hs.cell (h.on' x h1 h2) (by omega), fun x hx => (World.frozen?_setCell ..).trans (h.of x hx), fun x hx => ?_, ⟨h.ge.1, by have := h.ge.2.1; simpa [World.setCell] using this, h.ge.2.2⟩, h.gt, h.dj⟩
  by_cases e : x = a
  · subst e
    exact ((h.rows x hx).put hb v).congr (fun j hj => by simp)
  · exact ((h.rows x hx).sep hs (h.dj x a hx ha e)).congr (fun j hj => by simp [e])
theorem TabB.push (h : TabB W0 gi k G t D W) (ht : t < k) : TabB W0 gi k (fun x => if x = t then W.heap.size else G x) (t + 1) (fun x y => if x = t then false else D x y) ((W.alloc (.cells (Array.replicate k (.bool false)) 4)).setCell ⟨gi, t, none⟩ (.slice (some ⟨W.heap.size, 0, none⟩) k k)) := by
  have hb : Below W.heap.size W (W.alloc (.cells (Array.replicate k (.bool false)) 4)) := (Below.refl _ W).alloc (Nat.le_refl _) _
  have h1 := h.on hb
  have hs := Sep.set (W.alloc (.cells (Array.replicate k (.bool false)) 4)) gi t (.slice (some ⟨W.heap.size, 0, none⟩) k k)
  have hl := h.ge.2.1
  have hne : W.heap.size ≠ gi := by omega
  refine ⟨h1.be.setCell (p := ⟨gi, t, none⟩) h.ge.1 _, fun x hx => ?_, fun x hx hk => ?_, fun x hx => (World.frozen?_setCell ..).trans (h1.of x hx), fun x hx => ?_, ⟨h.ge.1, by have := h1.ge.2.1; simpa [World.setCell] using this, by omega⟩, fun x hx => ?_, fun x y hx hy hxy => ?_⟩
  · by_cases e : x = t
    · subst e; rw [if_pos rfl]; exact setCell_same _ _ (h1.on' x (Nat.le_refl _) ht)
    · rw [if_neg e, setCell_off _ _ (by omega)]; exact h1.oc x (by omega)
  · rw [setCell_off _ _ (by omega)]; exact h1.on' x (by omega) hk
  · by_cases e : x = t
    · subst e
      simp only [if_true]
      exact (RowB.made W k).sep hs hne
    · simp only [if_neg e]
      exact (h1.rows x (by omega)).sep hs (by have := h.gt x (by omega); omega)
  · by_cases e : x = t
    · simp only [if_pos e]; omega
    · simp only [if_neg e]; exact h.gt x (by omega)
  · have hz : ∀ z, z < t → G z ≠ W.heap.size := fun z hz => by have := (h.rows z hz).lt; omega
    by_cases e : x = t
    · by_cases e2 : y = t
      · omega
      · simp only [if_pos e, if_neg e2]; exact (hz y (by omega)).symm
    · by_cases e2 : y = t
      · simp only [if_neg e, if_pos e2]; exact hz x (by omega)
      · simp only [if_neg e, if_neg e2]; exact h.dj x y (by omega) (by omega) hxy
end
end Go.Proofs.Ytkjcnkkmhkcddaa
/-
  What lies within what, and a ring around a map: the contract of the law EnclaveNested.
-/
namespace Go.Proofs.Ytkjcnkkmhkcddaa
open Go.RowKit Go.Shelf
open Lim

attribute [local go_sem] Oper.semAt_some

set_option maxRecDepth 20000 in
set_option maxHeartbeats 8000000 in
theorem nestedl_any {B : Nat} {cv : Value} {l : List Int} {w : World} (hB : B ≤ w.heap.size) (hv : RS B w cv l.length (u8s l)) (hu : ∀ x ∈ l, 0 ≤ x ∧ x ≤ 255) :
    Calls Try.prog 9 #[cv] w fun e w' => e = .returned (.bool true) ∧ Below w.heap.size w w' := by
  have CO := Lib.hid (of_any hB hv hu)
  have HBS := Lib.hid hB
  obtain ⟨xa, xc, rfl, -⟩ := hv
  clear hB hu
  go_enter Try.func9, Try.ntmps9
  go_wp2_with fail
  refine CO.out.mono ?_
  rintro e w1 ⟨rfl, hdk, hb, hz⟩
  have CM := Lib.hid (made_any (C := 6) (R := 6) (w := w1) (by omega) (by omega) hdk (by omega))
  have HB1 := Lib.hid hb
  clear hdk hb hz CO
  go_wp2_with fail
  refine CM.out.mono ?_
  rintro e w2 ⟨wd, hi, v, os, rfl, hwd1, hwdC, hhi1, hhiR, hos, ho3, hown, hs⟩
  obtain ⟨m, hm⟩ : ∃ m : Mp, m = ⟨wd, os⟩ := ⟨_, rfl⟩
  have hmn : wd * hi ≤ 6 * 6 := Nat.mul_le_mul hwdC hhiR
  have he : errE wd os = 0 := errE_made hwd1 hhi1 (by omega) hos (fun o h => by have := ho3 o h; omega)
  have hok : m.Ok := by have h := (errE_ok he).1; rw [Int.toNat_natCast] at h; rw [hm]; exact h
  have HM : Hid (m.Ok ∧ m.n = m.wd * hi ∧ m.n ≤ 6 * 6 ∧ (∀ o ∈ m.os, 0 ≤ o ∧ o ≤ 3) ∧ errE m.wd m.os = 0 ∧ 1 ≤ m.wd ∧ m.wd ≤ 6 ∧ 1 ≤ hi ∧ hi ≤ 6) := Lib.hid (by rw [hm]; exact ⟨by rw [← hm]; exact hok, hos, by show os.length ≤ _; omega, ho3, he, hwd1, hwdC, hhi1, hhiR⟩)
  obtain ⟨rfl, rfl⟩ : wd = m.wd ∧ os = m.os := by rw [hm]; exact ⟨rfl, rfl⟩
  have hnn : m.os.length = m.n := rfl
  simp only [hnn] at hown hos ⊢
  clear hnn
  obtain ⟨ga, gc, rfl, -, -⟩ := RowK.of_owns hown (show 0 < m.n from hok.n0)
  have HV := Lib.hid (RS.of_owns hown)
  have hb2 : Below w.heap.size w w2 := HB1.out.trans (hs.below HB1.out.size (fun k e => by omega))
  have HB2 := Lib.hid hb2
  clear hm hmn he hok hos ho3 hown hs hb2 hwd1 hwdC hhi1 hhiR CM HB1
  go_upto_region 2 with (fail)
  have hb : Below w2.heap.size w2 (w2.alloc (.cells #[.int .i64 m.wd, .slice (some ⟨ga, 0, none⟩) m.n gc] 24)) := (Below.refl _ _).alloc (Nat.le_refl _) _
  have k0 : (w2.alloc (.cells #[.int .i64 m.wd, .slice (some ⟨ga, 0, none⟩) m.n gc] 24)).cell? ⟨w2.heap.size, 0, none⟩ = some (.int .i64 m.wd) := by simp [go_sem]
  have k1 : (w2.alloc (.cells #[.int .i64 m.wd, .slice (some ⟨ga, 0, none⟩) m.n gc] 24)).cell? ⟨w2.heap.size, 1, none⟩ = some (.slice (some ⟨ga, 0, none⟩) m.n gc) := by simp [go_sem]
  generalize w2.alloc (.cells #[.int .i64 m.wd, .slice (some ⟨ga, 0, none⟩) m.n gc] 24) = w3 at hb k0 k1 ⊢
  obtain ⟨q3, hq⟩ : ∃ q, q = w2.heap.size := ⟨_, rfl⟩
  rw [← hq] at k0 k1 ⊢
  have HB := Lib.hid (HB2.out.trans (hb.mono HB2.out.size))
  replace HV := Lib.hid (RS.on HV.out hb)
  clear hb hq HB2 w2
  go_wp2_with fail
  refine (Regions_any (wd := m.wd) (B := w3.heap.size) (by have := HM.out.2.2.1; show m.n ≤ _; omega) (Nat.le_refl _) HV.out).mono ?_
  rintro e w4 ⟨hb, ⟨-, v, r, k, rfl, hr, hk, ho⟩ | ⟨he, -⟩⟩
  case inr => exact absurd HM.out.2.2.2.2.1 he
  rw [Int.toNat_natCast] at hr hk
  have HR : Hid (IsReg m r ∧ IsMany m r k) := Lib.hid ⟨hr, hk⟩
  replace ho : w4.ownsRow w3.heap.size 3 1 v m.n (ints (regL r m.n)) := ho
  obtain ⟨gl, cl, rfl, -, -⟩ := RowK.of_owns ho (show 0 < m.n from HM.out.1.n0)
  have HL := Lib.hid (RS.of_owns ho)
  replace HB := Lib.hid (HB.out.trans (hb.mono HB.out.size))
  replace HV := Lib.hid (RS.on HV.out hb)
  replace k0 := hb.on k0
  replace k1 := hb.on k1
  have hk1 : 1 ≤ k := hk.pos HM.out.1
  have hk100 : k ≤ 100 := Nat.le_trans hk.le HM.out.1.n1
  clear hb hr hk ho
  go_wp2_with fail
  refine (Depths_any (wd := m.wd) (B := w4.heap.size) (by have := HM.out.2.2.1; show m.n ≤ _; omega) (Nat.le_refl _) HV.out).mono ?_
  rintro e w5 ⟨hb, ⟨-, v, r', k', rfl, hr, hk, ho⟩ | ⟨he, -⟩⟩
  case inr => exact absurd HM.out.2.2.2.2.1 he
  rw [Int.toNat_natCast] at hr hk ho
  obtain ⟨hrr, rfl⟩ := reg_same HR.out.1 hr HR.out.2 hk
  have hdd : depL m r' k = depL m r k := List.map_congr_left (fun i _ => by rw [inCount_congr hrr])
  replace ho : w5.ownsRow w4.heap.size 3 1 v k (ints (depL m r k)) := by rw [← hdd]; exact ho
  obtain ⟨gd, cd, rfl, -, -⟩ := RowK.of_owns ho hk1
  have HD := Lib.hid (RS.of_owns ho)
  replace HB := Lib.hid (HB.out.trans (hb.mono HB.out.size))
  replace HV := Lib.hid (RS.on HV.out hb)
  replace HL := Lib.hid (RS.on HL.out hb)
  replace k0 := hb.on k0
  replace k1 := hb.on k1
  clear hb hr hk ho hrr hdd
  go_wp2_with fail
  refine (many_any (l := regL r m.n) (B := _) (by rw [regL_length]; have := HM.out.2.2.1; omega) (fun x hx => by
    obtain ⟨p, hp, rfl⟩ := List.mem_map.1 hx
    have h1 := HR.out.1.le p (List.mem_range.1 hp)
    have h2 := List.mem_range.1 hp
    have := HM.out.2.2.1
    omega) (by rw [regL_length]; exact HL.out)).mono ?_
  rw [many_reg HM.out.1 HR.out.2]
  rintro e w5 ⟨rfl, rfl⟩
  have HK : Hid (∀ W, Below w5.heap.size w5 W → (W.cell? ⟨q3, 0, none⟩ = some (.int .i64 m.wd) ∧ W.cell? ⟨q3, 1, none⟩ = some (.slice (some ⟨ga, 0, none⟩) m.n gc)) ∧ (∀ i, i < k → W.cell? ⟨gd, i, none⟩ = some (.int .i64 (inCount m r i k : Nat))) ∧ ∀ p, p < m.n → W.cell? ⟨ga, p, none⟩ = some (.int .i64 (m.own p))) := Lib.hid fun W hW => by
    refine ⟨⟨hW.on k0, hW.on k1⟩, fun i hi => ?_, fun p hp => rs_cell (p := p) (HV.out.below hW) hp⟩
    have h := rs_cell (p := i) (HD.out.below hW) (by simp [depL]; exact hi)
    rw [h, show (depL m r k).getD i 0 = inCount m r i k from getD_mapR (fun i => (inCount m r i k : Int)) hi]
  have hn36 : m.n ≤ 36 := HM.out.2.2.1
  have hwd6 : m.wd ≤ 6 := HM.out.2.2.2.2.2.2.1
  have hwd1 : 1 ≤ m.wd := HM.out.2.2.2.2.2.1
  obtain ⟨i1, hi, hz0, hz1, hz2⟩ := info_parts (show (Try.prog.info? 74).map (fun i => (i.zero, i.size, i.bytes)) = some (some (.slice none 0 0), 1, 24) by kernel_rfl)
  have hmk := made_tab (w := w5) ⟨hi, hz0, hz1, hz2⟩ (n := k) (by omega)
  clear hi hz0 hz1 hz2
  go_upto_region 8 with (fail)
  have M0 : Hid (TabB w5 w5.heap.size k (fun _ => 0) 0 (fun _ _ => false) (w5.alloc (.cells (Array.replicate k (.slice none 0 0)) 74))) := Lib.hid ⟨(Below.refl _ _).alloc (Nat.le_refl _) _, (fun a ha => absurd ha (Nat.not_lt_zero _)), (fun a _ ha => by rw [World.cell?_alloc_new, Array.getElem?_replicate, if_pos ha]), (fun a ha => World.frozen?_alloc_new ..), (fun a ha => absurd ha (Nat.not_lt_zero _)), ⟨Nat.le_refl _, by simp, Nat.zero_le _⟩, (fun a ha => absurd ha (Nat.not_lt_zero _)), (fun a b ha => absurd ha (Nat.not_lt_zero _))⟩
  generalize w5.alloc (.cells (Array.replicate k (.slice none 0 0)) 74) = w6 at M0 ⊢
  obtain ⟨gi, hgi⟩ : ∃ g, g = w5.heap.size := ⟨_, rfl⟩
  rw [← hgi] at M0 ⊢
  obtain ⟨i0, hi, hz0, hz1, hz2⟩ := info_parts Try.infoBool
  have HIB := Lib.hid (And.intro hi (And.intro hz0 (And.intro hz1 hz2)))
  clear hmk hgi k0 k1 hi hz0 hz1 hz2
  go_wp2_with fail
  go_loopw [56] (fun iv W => ∃ i : Nat, i ≤ k ∧ iv = .int .i64 i ∧ ∃ (G : Nat → Nat) (D : Nat → Nat → Bool), Hid (TabB w5 gi k G i D W ∧ ∀ a b, a < i → b < k → (D a b = true ↔ In m r a b))) (fun iv _ => k - (intOf iv).toNat)
  case atStart => exact ⟨0, Nat.zero_le _, rfl, _, _, Lib.hid ⟨M0.out, fun a b ha => absurd ha (Nat.not_lt_zero _)⟩⟩
  case round =>
    clear M0
    obtain ⟨i, hii, rfl, G, D, hI⟩ := hrel
    by_cases hik : i < k
    · have hi64 : (i : Int) < 100 := by omega
      have hmb := made_bools (w := wr) HIB.out (n := k) (by omega)
      have hb1 : Below wr.heap.size wr (wr.alloc (.cells (Array.replicate k (.bool false)) 4)) := (Below.refl _ _).alloc (Nat.le_refl _) _
      have o1 := (hI.out.1.on hb1).on' i (Nat.le_refl _) hik
      have o2 := (hI.out.1.on hb1).of i hik
      have HP := Lib.hid (hI.out.1.push hik)
      clear hb1
      go_upto_region 12 with (fail)
      obtain ⟨G2, hG2⟩ : ∃ G2 : Nat → Nat, G2 = fun x => if x = i then wr.heap.size else G x := ⟨_, rfl⟩
      rw [← hG2] at HP
      have HIA : Hid (∀ a b, a < i → b < k → ((fun x y => if x = i then false else D x y) a b = true ↔ In m r a b)) := Lib.hid fun a b ha hb => by
        simp only [if_neg (show ¬ a = i by omega)]
        exact hI.out.2 a b ha hb
      obtain ⟨D2, hD2⟩ : ∃ D2 : Nat → Nat → Bool, D2 = fun x y => if x = i then false else D x y := ⟨_, rfl⟩
      rw [← hD2] at HP HIA
      have HD0 : Hid (∀ b, D2 i b = false) := Lib.hid fun b => by rw [hD2]; simp
      generalize (wr.alloc (.cells (Array.replicate k (.bool false)) 4)).setCell ⟨gi, i, none⟩ (.slice (some ⟨wr.heap.size, 0, none⟩) k k) = w7 at HP ⊢
      obtain ⟨gn, hgn⟩ : ∃ g, g = wr.heap.size := ⟨_, rfl⟩
      clear hmb o1 o2 hI hG2 hD2
      simp only [← hgn]
      clear hgn
      go_wp2_with fail
      go_loopw [65] (fun jv W => ∃ j : Nat, j ≤ k ∧ jv = .int .i64 j ∧ ∃ D : Nat → Nat → Bool, Hid (TabB w5 gi k G2 (i + 1) D W ∧ (∀ a b, a < i → b < k → (D a b = true ↔ In m r a b)) ∧ (∀ b, b < j → (D i b = true ↔ In m r i b)) ∧ ∀ b, j ≤ b → D i b = false)) (fun jv _ => k - (intOf jv).toNat)
      case atStart => exact ⟨0, Nat.zero_le _, rfl, _, Lib.hid ⟨HP.out, HIA.out, fun b hb => absurd hb (Nat.not_lt_zero _), fun b _ => HD0.out b⟩⟩
      case round =>
        clear HP HIA HD0
        obtain ⟨j, hj, rfl, D3, hJ⟩ := hrel
        by_cases hjk : j < k
        · have hj64 : (j : Int) < 100 := by omega
          by_cases e : i = j
          · have g0 : ((i : Int) != (j : Int)) = false := by simp [e]
            have HN1 : Hid (∀ b, b < j + 1 → (D3 i b = true ↔ In m r i b)) := Lib.hid fun b hb => by
              by_cases e2 : b = j
              · rw [hJ.out.2.2.2 b (by omega)]
                exact ⟨fun h => by (cases h), fun h => absurd (e.trans e2.symm) h.1⟩
              · exact hJ.out.2.2.1 b (by omega)
            clear e
            go_wp2_with fail
            go_roundw
            case rel => exact ⟨j + 1, by omega, by go_num, D3, Lib.hid ⟨hJ.out.1, hJ.out.2.1, HN1.out, fun b hb => hJ.out.2.2.2 b (by omega)⟩⟩
            case measure => simp [intOf]; omega
          · have g0 : ((i : Int) != (j : Int)) = true := by rw [bne_iff_ne]; omega
            have HE1 := Lib.hid e
            obtain ⟨⟨k0, k1⟩, -⟩ := HK.out _ hJ.out.1.be
            have CO := Lib.hid (Out_any (wd := m.wd) (B := w5.heap.size) (ov := .slice (some ⟨ga, 0, none⟩) m.n gc) (os := m.os) (i : Int) (j : Int) (w := wr) (by show m.n ≤ _; omega) hJ.out.1.be.size (HV.out.below hJ.out.1.be))
            clear e
            go_wp2_with fail
            refine CO.out.mono ?_
            rintro e w8 h
            obtain ⟨hb, h⟩ := OuAns.told HM.out.2.2.2.2.1 HR.out.1 HR.out.2 hik hjk HE1.out h
            have HT8 := Lib.hid (hJ.out.1.on hb)
            have t1 := HT8.out.oc i (Nat.lt_succ_self _)
            have t2 := (HT8.out.rows i (Nat.lt_succ_self _)).c j hjk
            have t3 := (HT8.out.rows i (Nat.lt_succ_self _)).f j hjk
            rcases h with ⟨hin, rfl⟩ | ⟨hin, v, L, hL, rfl, ho, -⟩
            · have HPT := Lib.hid (HT8.out.put (Nat.lt_succ_self i) hjk true)
              have HIN := Lib.hid hin
              clear hb hin k0 k1
              go_wp2_with fail
              go_roundw
              case rel => exact ⟨j + 1, by omega, by go_num, _, Lib.hid ⟨HPT.out, fun a b ha hb => by show (if a = i ∧ b = j then true else D3 a b) = true ↔ _; rw [if_neg (show ¬ (a = i ∧ b = j) by omega)]; exact hJ.out.2.1 a b ha hb, fun b hb => by
                by_cases e2 : b = j
                · show (if i = i ∧ b = j then true else D3 i b) = true ↔ _
                  rw [if_pos ⟨rfl, e2⟩, e2]; exact ⟨fun _ => HIN.out, fun _ => rfl⟩
                · show (if i = i ∧ b = j then true else D3 i b) = true ↔ _
                  rw [if_neg (show ¬ (i = i ∧ b = j) from fun h => e2 h.2)]
                  exact hJ.out.2.2.1 b (by omega), fun b hb => by show (if i = i ∧ b = j then true else D3 i b) = false; rw [if_neg (show ¬ (i = i ∧ b = j) by omega)]; exact hJ.out.2.2.2 b (by omega)⟩⟩
              case measure => simp [intOf]; omega
            · have HPT := Lib.hid (HT8.out.put (Nat.lt_succ_self i) hjk false)
              have HIN := Lib.hid hin
              clear hb hin ho k0 k1
              go_wp2_with fail
              go_roundw
              case rel => exact ⟨j + 1, by omega, by go_num, _, Lib.hid ⟨HPT.out, fun a b ha hb => by show (if a = i ∧ b = j then false else D3 a b) = true ↔ _; rw [if_neg (show ¬ (a = i ∧ b = j) by omega)]; exact hJ.out.2.1 a b ha hb, fun b hb => by
                by_cases e2 : b = j
                · show (if i = i ∧ b = j then false else D3 i b) = true ↔ _
                  rw [if_pos ⟨rfl, e2⟩, e2]; exact ⟨fun h => by (cases h), fun h => absurd h HIN.out⟩
                · show (if i = i ∧ b = j then false else D3 i b) = true ↔ _
                  rw [if_neg (show ¬ (i = i ∧ b = j) from fun h => e2 h.2)]
                  exact hJ.out.2.2.1 b (by omega), fun b hb => by show (if i = i ∧ b = j then false else D3 i b) = false; rw [if_neg (show ¬ (i = i ∧ b = j) by omega)]; exact hJ.out.2.2.2 b (by omega)⟩⟩
              case measure => simp [intOf]; omega
        · obtain rfl : j = k := by omega
          have HN2 : Hid (TabB w5 gi j G2 (i + 1) D3 wr ∧ ∀ a b, a < i + 1 → b < j → (D3 a b = true ↔ In m r a b)) := Lib.hid ⟨hJ.out.1, fun a b ha hb => by
            by_cases e : a = i
            · rw [e]; exact hJ.out.2.2.1 b hb
            · exact hJ.out.2.1 a b (by omega) hb⟩
          clear hJ
          go_wp2_with fail
          go_roundw
          case rel => exact ⟨i + 1, by omega, by go_num, G2, D3, HN2⟩
          case measure => simp [intOf]; omega
    · obtain rfl : k = i := by omega
      obtain ⟨w9, rfl⟩ : ∃ w9, w9 = wr := ⟨_, rfl⟩
      have HC : Hid (∀ W, Below w9.heap.size w9 W → ∀ a b, a < k → b < k → W.cell? ⟨gi, a, none⟩ = some (.slice (some ⟨G a, 0, none⟩) k k) ∧ W.cell? ⟨G a, b, none⟩ = some (.bool (D a b))) := Lib.hid fun W hW a b ha hb => ⟨hW.on (hI.out.1.oc a ha), hW.on ((hI.out.1.rows a ha).c b hb)⟩
      have HB9 : Hid (Below w5.heap.size w5 w9) := Lib.hid hI.out.1.be
      have HP : Hid (∀ a b c, a < k → b < k → c < k → D a b = true → D b a = false ∧ (D b c = true → D a c = true) ∧ (c ≠ b → D a c = true → D b c = true ∨ D c b = true)) := Lib.hid (by
        have hD := hI.out.2
        have hm := HM.out.1
        have hex := HR.out.2.ex
        intro a b c ha hb hc h
        have h1 := (hD a b ha hb).1 h
        have hasym : D b a = false := by
          cases e : D b a with
          | false => rfl
          | true => exact absurd ((hD b a hb ha).1 e) (In.asymm hm (hex a ha) h1)
        refine ⟨hasym, fun h2 => ?_, fun hcb h2 => ?_⟩
        · have h3 := (hD b c hb hc).1 h2
          refine (hD a c ha hc).2 (h1.trans h3 (fun e => ?_))
          subst e
          rw [h2] at hasym; cases hasym
        · have h3 := (hD a c ha hc).1 h2
          rcases In.tree hm HR.out.1 (hex a ha) h1 h3 (fun e => hcb e.symm) with h | h
          · exact .inl ((hD b c hb hc).2 h)
          · exact .inr ((hD c b hc hb).2 h))
      clear hI
      go_wp2_with fail
      go_loopw [95] (fun iv W => ∃ a : Nat, a ≤ k ∧ iv = .int .i64 a ∧ Hid (Below w9.heap.size w9 W)) (fun iv _ => k - (intOf iv).toNat)
      case atStart => exact ⟨0, Nat.zero_le _, rfl, Lib.hid (Below.refl _ _)⟩
      case round =>
        obtain ⟨a, ha, rfl, hA⟩ := hrel
        by_cases hak : a < k
        · have ha64 : (a : Int) < 100 := by omega
          go_wp2_with fail
          go_loopw [99] (fun iv W => ∃ b : Nat, b ≤ k ∧ iv = .int .i64 b ∧ Hid (Below w9.heap.size w9 W)) (fun iv _ => k - (intOf iv).toNat)
          case atStart => exact ⟨0, Nat.zero_le _, rfl, hA⟩
          case round =>
            obtain ⟨b, hb, rfl, hB⟩ := hrel
            by_cases hbk : b < k
            · have hb64 : (b : Int) < 100 := by omega
              go_wp2_with fail
              go_loopw [103] (fun iv W => ∃ c : Nat, c ≤ k ∧ iv = .int .i64 c ∧ Hid (Below w9.heap.size w9 W)) (fun iv _ => k - (intOf iv).toNat)
              case atStart => exact ⟨0, Nat.zero_le _, rfl, hB⟩
              case round =>
                obtain ⟨c, hc, rfl, hCC⟩ := hrel
                simp only [List.append_eq, List.cons_append, List.nil_append]
                by_cases hck : c < k
                · have hc64 : (c : Int) < 100 := by omega
                  have t1 := (HC.out _ hCC.out a b hak hbk).1
                  have t2 := (HC.out _ hCC.out a b hak hbk).2
                  have t3 := (HC.out _ hCC.out b a hbk hak).1
                  have t4 := (HC.out _ hCC.out b a hbk hak).2
                  have t5 := (HC.out _ hCC.out b c hbk hck).2
                  have t6 := (HC.out _ hCC.out a c hak hck).2
                  have t7 := (HC.out _ hCC.out c b hck hbk).1
                  have t8 := (HC.out _ hCC.out c b hck hbk).2
                  have HQ := Lib.hid (HP.out a b c hak hbk hck)
                  obtain ⟨x1, e1⟩ : ∃ x, x = D a b := ⟨_, rfl⟩
                  obtain ⟨x2, e2⟩ : ∃ x, x = D b a := ⟨_, rfl⟩
                  obtain ⟨x3, e3⟩ : ∃ x, x = D b c := ⟨_, rfl⟩
                  obtain ⟨x4, e4⟩ : ∃ x, x = D a c := ⟨_, rfl⟩
                  obtain ⟨x6, e6⟩ : ∃ x, x = D c b := ⟨_, rfl⟩
                  rw [← e1] at t2
                  rw [← e2] at t4
                  rw [← e3] at t5
                  rw [← e4] at t6
                  rw [← e6] at t8
                  rw [← e1, ← e2, ← e3, ← e4, ← e6] at HQ
                  clear e1 e2 e3 e4 e6
                  cases x1 with
                  | false =>
                    go_wp2_with fail
                    go_roundw
                    case rel => exact ⟨c + 1, by omega, by go_num, hCC⟩
                    case measure => simp [intOf]; omega
                  | true =>
                    have h2 := (HQ.out rfl).1
                    subst h2
                    cases x3 with
                    | true =>
                      have h4 := (HQ.out rfl).2.1 rfl
                      subst h4
                      by_cases ecb : c = b
                      · have g0 : ((c : Int) != (b : Int)) = false := by simp [ecb]
                        clear ecb
                        go_wp2_with fail
                        go_roundw
                        case rel => exact ⟨c + 1, by omega, by go_num, hCC⟩
                        case measure => simp [intOf]; omega
                      · have g0 : ((c : Int) != (b : Int)) = true := by rw [bne_iff_ne]; omega
                        clear ecb
                        go_wp2_with fail
                        go_roundw
                        case rel => exact ⟨c + 1, by omega, by go_num, hCC⟩
                        case measure => simp [intOf]; omega
                    | false =>
                      by_cases ecb : c = b
                      · have g0 : ((c : Int) != (b : Int)) = false := by simp [ecb]
                        clear ecb
                        go_wp2_with fail
                        go_roundw
                        case rel => exact ⟨c + 1, by omega, by go_num, hCC⟩
                        case measure => simp [intOf]; omega
                      · have g0 : ((c : Int) != (b : Int)) = true := by rw [bne_iff_ne]; omega
                        cases x4 with
                        | false =>
                          clear ecb
                          go_wp2_with fail
                          go_roundw
                          case rel => exact ⟨c + 1, by omega, by go_num, hCC⟩
                          case measure => simp [intOf]; omega
                        | true =>
                          have h6 : x6 = true := by
                            rcases (HQ.out rfl).2.2 ecb rfl with h | h
                            · cases h
                            · exact h
                          subst h6
                          clear ecb
                          go_wp2_with fail
                          go_roundw
                          case rel => exact ⟨c + 1, by omega, by go_num, hCC⟩
                          case measure => simp [intOf]; omega
                · have hck' : c = k := by omega
                  clear hc
                  subst hck'
                  go_wp2_with fail
                  go_roundw
                  case rel => exact ⟨b + 1, by omega, by go_num, hCC⟩
                  case measure => simp [intOf]; omega
            · have hbk' : b = k := by omega
              subst hbk'
              go_wp2_with fail
              go_roundw
              case rel => exact ⟨a + 1, by omega, by go_num, hB⟩
              case measure => simp [intOf]; omega
        · obtain rfl : k = a := by omega
          have HW : Hid (Below w5.heap.size w5 wr) := Lib.hid (HB9.out.trans (hA.out.mono HB9.out.size))
          obtain ⟨w10, rfl⟩ : ∃ w10, w10 = wr := ⟨_, rfl⟩
          obtain ⟨⟨k0, k1⟩, -⟩ := HK.out _ HW.out
          have hhi : 1 ≤ hi ∧ hi ≤ 6 := HM.out.2.2.2.2.2.2.2
          have hnn := HM.out.2.1
          have e1 : (m.n : Int).tdiv (m.wd : Int) = (hi : Int) := by rw [← Int.ofNat_tdiv, hnn, Nat.mul_div_cancel_left _ hwd1]
          have e2 : IntKind.i64.wrap (hi : Int) = (hi : Int) := IntWalk.i64_in _ (by omega)
          have hwn : ¬ m.wd = 0 := by omega
          obtain ⟨wb, hwb⟩ : ∃ wb : Nat, wb = m.wd + 2 := ⟨_, rfl⟩
          obtain ⟨hb, hhb⟩ : ∃ hb : Nat, hb = hi + 2 := ⟨_, rfl⟩
          have e3 : IntKind.i64.wrap ((m.wd : Int) + 2) = (wb : Int) := by rw [IntWalk.i64_in _ (by omega)]; omega
          have e4 : IntKind.i64.wrap ((hi : Int) + 2) = (hb : Int) := by rw [IntWalk.i64_in _ (by omega)]; omega
          obtain ⟨N, hN⟩ : ∃ N : Nat, N = wb * hb := ⟨_, rfl⟩
          have hNle : N ≤ 64 := by rw [hN]; exact Nat.mul_le_mul (n₁ := wb) (n₂ := 8) (m₁ := hb) (m₂ := 8) (by omega) (by omega)
          have hmul : (wb : Int) * (hb : Int) = (N : Int) := by rw [hN]; exact (Int.natCast_mul wb hb).symm
          have e5 : IntKind.i64.wrap ((wb : Int) * (hb : Int)) = (N : Int) := by rw [hmul]; exact IntWalk.i64_in _ (by omega)
          have HWB : Hid (wb = m.wd + 2) := Lib.hid hwb
          have HHB : Hid (hb = hi + 2) := Lib.hid hhb
          have HN : Hid (N = wb * hb) := Lib.hid hN
          obtain ⟨i0, hi0, hz0, hz1, hz2⟩ := info_parts Try.infoInt
          have HI := Lib.hid (And.intro hi0 (And.intro hz0 (And.intro hz1 hz2)))
          clear hnn hwb hhb hN hmul hi0 hz0 hz1 hz2
          go_upto_region 38 with (fail)
          have HM0 : Hid (Mem w10 w10.heap.size [] [rwI (.slice none 0 0) 0 []] [(w10.heap.size, .cells #[.int .i64 wb, .slice none 0 0] 24 (0, 0))] (w10.alloc (.cells #[.int .i64 wb, .slice none 0 0] 24))) := Lib.hid (((Mem.nil (Below.refl _ w10)).lay _).nilQ 3 1)
          have hbb : Below w10.heap.size w10 (w10.alloc (.cells #[.int .i64 wb, .slice none 0 0] 24)) := (Below.refl _ w10).alloc (Nat.le_refl _) _
          replace k0 := hbb.on k0
          replace k1 := hbb.on k1
          obtain ⟨q8, hq8⟩ : ∃ q, q = w10.heap.size := ⟨_, rfl⟩
          have HM0 : Hid (Mem w10 w10.heap.size [] [rwI (.slice none 0 0) 0 []] [(q8, .cells #[.int .i64 wb, .slice none 0 0] 24 (0, 0))] (w10.alloc (.cells #[.int .i64 wb, .slice none 0 0] 24))) := by rw [hq8]; exact HM0
          rw [← hq8]
          generalize w10.alloc (.cells #[.int .i64 wb, .slice none 0 0] 24) = w11 at HM0 k0 k1 ⊢
          clear hbb hq8
          go_wp2_with fail
          clear k0 k1 e1 e2 e3 e4 e5
          go_loopw [194] (fun iv W => ∃ t : Nat, t ≤ N ∧ iv = .int .i64 t ∧ ∃ v : Value, Hid (Mem w10 w10.heap.size [] [rwI v t (rgL m hi t)] [(q8, .cells #[.int .i64 wb, v] 24 (0, 0))] W)) (fun iv _ => N - (intOf iv).toNat)
          case atStart => exact ⟨0, Nat.zero_le _, rfl, _, HM0⟩
          case round =>
            clear HM0
            obtain ⟨t, ht, rfl, v, hM⟩ := hrel
            by_cases hlt : t < N
            · have ht64 : (t : Int) < N := by omega
              obtain ⟨cx, hx⟩ : ∃ x, x = t % wb := ⟨_, rfl⟩
              obtain ⟨cy, hy⟩ : ∃ y, y = t / wb := ⟨_, rfl⟩
              have hxw : cx < wb := by rw [hx]; exact Nat.mod_lt _ (by have := HWB.out; omega)
              have hyh : cy < hb := by rw [hy]; exact Nat.div_lt_of_lt_mul (by rw [← HN.out]; exact hlt)
              have e5 : (t : Int).tmod (wb : Int) = (cx : Int) := by rw [hx]; exact (Int.ofNat_tmod t wb).symm
              have e6 : (t : Int).tdiv (wb : Int) = (cy : Int) := by rw [hy]; exact (Int.ofNat_tdiv t wb).symm
              have hwbn : ¬ wb = 0 := by have := HWB.out; omega
              have hb8 : wb ≤ 8 ∧ hb ≤ 8 := by have := HWB.out; have := HHB.out; omega
              have e7 : IntKind.i64.wrap (cy : Int) = (cy : Int) := IntWalk.i64_in _ (by omega)
              obtain ⟨X, hX⟩ : ∃ X : Int, X = (cx : Int) - 1 := ⟨_, rfl⟩
              obtain ⟨Y, hY⟩ : ∃ Y : Int, Y = (cy : Int) - 1 := ⟨_, rfl⟩
              have e8 : IntKind.i64.wrap ((cx : Int) - 1) = X := by rw [hX]; exact IntWalk.i64_in _ (by omega)
              have e9 : IntKind.i64.wrap ((cy : Int) - 1) = Y := by rw [hY]; exact IntWalk.i64_in _ (by omega)
              have HXY : Hid (cx = t % (m.wd + 2) ∧ cy = t / (m.wd + 2) ∧ X = (cx : Int) - 1 ∧ Y = (cy : Int) - 1 ∧ cx < m.wd + 2 ∧ cy < hi + 2) := Lib.hid ⟨by rw [hx, HWB.out], by rw [hy, HWB.out], hX, hY, by rw [← HWB.out]; exact hxw, by rw [← HHB.out]; exact hyh⟩
              have HT : Hid (t < 64) := Lib.hid (by have h := HN.out; have := Nat.mul_le_mul (n₁ := wb) (n₂ := 8) (m₁ := hb) (m₂ := 8) hb8.1 hb8.2; omega)
              have HMZ : Hid (Mem w10 w10.heap.size [] [rwI v t (rgL m hi t)] [(q8, .cells #[.int .i64 wb, v] 24 (0, 0))] wr.drew) := Lib.hid hM.out.drew
              have hC41 : (fun W => W.cell? ⟨q8, 0, none⟩ = some (.int .i64 wb)) wr.drew := (HMZ.out.box2 (List.mem_cons_self)).1
              clear hM hx hy hX hY
              go_upto_region 41 with (fail)
              refine Lim.regC' (fun W => W.cell? ⟨q8, 0, none⟩ = some (.int .i64 wb)) [] #[false, false, false, false, false, false, false, false, false, false, false, false] (by kernel_rfl) rfl ?_
              refine Lim.stepR 0 (fun _ => trivial) rfl (by kernel_rfl) (fun _ _ _ _ h => h) hC41 rfl ?_; apply Exists.intro; refine ⟨?_, ?_⟩
              · rintro w r1; go_simp; try with_reducible rfl
              simp only [Act.put, List.setIfInBounds_toArray, List.set_cons_succ, List.set_cons_zero]
              refine Lim.stepR 1 (fun _ => trivial) rfl (by kernel_rfl) (fun _ _ _ _ h => h) hC41 rfl ?_; apply Exists.intro; refine ⟨?_, ?_⟩
              · rintro w r1; go_simp; try with_reducible rfl
              simp only [Act.put, List.setIfInBounds_toArray, List.set_cons_succ, List.set_cons_zero]
              refine Lim.stepR 2 (fun _ => trivial) rfl (by kernel_rfl) (fun _ _ _ _ h => h) hC41 rfl ?_; apply Exists.intro; refine ⟨?_, ?_⟩
              · rintro w r1; go_simp; try with_reducible rfl
              simp only [Act.put, List.setIfInBounds_toArray, List.set_cons_succ, List.set_cons_zero]
              refine Lim.stepR 3 (fun _ => trivial) rfl (by kernel_rfl) (fun _ _ _ _ h => h) hC41 rfl ?_; apply Exists.intro; refine ⟨?_, ?_⟩
              · rintro w r1; go_simp; try with_reducible rfl
              simp only [Act.put, List.setIfInBounds_toArray, List.set_cons_succ, List.set_cons_zero]
              refine Lim.stepR 4 (fun _ => trivial) rfl (by kernel_rfl) (fun _ _ _ _ h => h) hC41 rfl ?_; apply Exists.intro; refine ⟨?_, ?_⟩
              · rintro w r1; go_simp; try with_reducible rfl
              simp only [Act.put, List.setIfInBounds_toArray, List.set_cons_succ, List.set_cons_zero]
              refine Lim.stepR 5 (fun _ => trivial) rfl (by kernel_rfl) (fun _ _ _ _ h => h) hC41 rfl ?_; apply Exists.intro; refine ⟨?_, ?_⟩
              · rintro w r1; go_simp; try with_reducible rfl
              simp only [Act.put, List.setIfInBounds_toArray, List.set_cons_succ, List.set_cons_zero]
              refine Lim.stepR 6 (fun _ => trivial) rfl (by kernel_rfl) (fun _ _ _ _ h => h) hC41 rfl ?_; apply Exists.intro; refine ⟨?_, ?_⟩
              · rintro w r1; go_simp; try with_reducible rfl
              simp only [Act.put, List.setIfInBounds_toArray, List.set_cons_succ, List.set_cons_zero]
              refine Lim.stepR 7 (fun _ => trivial) rfl (by kernel_rfl) (fun _ _ _ _ h => h) hC41 rfl ?_; apply Exists.intro; refine ⟨?_, ?_⟩
              · rintro w r1; go_simp; try with_reducible rfl
              simp only [Act.put, List.setIfInBounds_toArray, List.set_cons_succ, List.set_cons_zero]
              refine Lim.stepR 8 (fun _ => trivial) rfl (by kernel_rfl) (fun _ _ _ _ h => h) hC41 rfl ?_; apply Exists.intro; refine ⟨?_, ?_⟩
              · rintro w r1; go_simp; try with_reducible rfl
              simp only [Act.put, List.setIfInBounds_toArray, List.set_cons_succ, List.set_cons_zero]
              refine Lim.stepR 9 (fun _ => trivial) rfl (by kernel_rfl) (fun _ _ _ _ h => h) hC41 rfl ?_; apply Exists.intro; refine ⟨?_, ?_⟩
              · rintro w r1; go_simp; try with_reducible rfl
              simp only [Act.put, List.setIfInBounds_toArray, List.set_cons_succ, List.set_cons_zero]
              refine Lim.stepR 10 (fun _ => trivial) rfl (by kernel_rfl) (fun _ _ _ _ h => h) hC41 rfl ?_; apply Exists.intro; refine ⟨?_, ?_⟩
              · rintro w r1; go_simp; try with_reducible rfl
              simp only [Act.put, List.setIfInBounds_toArray, List.set_cons_succ, List.set_cons_zero]
              refine Lim.stepR 11 (fun _ => trivial) rfl (by kernel_rfl) (fun _ _ _ _ h => h) hC41 rfl ?_; apply Exists.intro; refine ⟨?_, ?_⟩
              · rintro w r1; go_simp; try with_reducible rfl
              simp only [Act.put, List.setIfInBounds_toArray, List.set_cons_succ, List.set_cons_zero]
              refine Lim.stepD (by kernel_rfl) ?_
              clear hC41 e5 e6 e7 e8 e9
              generalize wr.drew = wz at HMZ ⊢
              have hbz : Below w5.heap.size w5 wz := HW.out.trans (HMZ.out.b.mono HW.out.size)
              obtain ⟨⟨k0, k1⟩, -, hcell⟩ := HK.out _ hbz
              obtain ⟨c0, c1, c2, c3⟩ := HMZ.out.box2 (List.mem_cons_self)
              have HCE := Lib.hid hcell
              clear hbz hcell
              by_cases a1 : 0 ≤ X
              · have g1 : decide (0 ≤ X) = true := by simpa using a1
                by_cases a2 : 0 ≤ Y
                · have g2 : decide (0 ≤ Y) = true := by simpa using a2
                  by_cases a3 : X < (m.wd : Int)
                  · have g3 : decide (X < (m.wd : Int)) = true := by simpa using a3
                    by_cases a4 : Y < (hi : Int)
                    · have g4 : decide (Y < (hi : Int)) = true := by simpa using a4
                      obtain ⟨idx, hidx⟩ : ∃ i : Nat, i = (cy - 1) * m.wd + (cx - 1) := ⟨_, rfl⟩
                      have hY : Y = ((cy - 1 : Nat) : Int) := by have := HXY.out; omega
                      have hm1 : Y * (m.wd : Int) = (((cy - 1) * m.wd : Nat) : Int) := by rw [hY, Int.natCast_mul]
                      have hlt2 : idx < m.n := by
                        have h1 : cy - 1 + 1 ≤ hi := by have := HXY.out; omega
                        have h2 := Nat.mul_le_mul_right m.wd h1
                        rw [Nat.succ_mul, Nat.mul_comm hi, ← HM.out.2.1] at h2
                        have := HXY.out
                        omega
                      have hsum : Y * (m.wd : Int) + X = (idx : Int) := by rw [hm1]; have := HXY.out; omega
                      have hn36' : m.n ≤ 36 := hn36
                      have f1 : IntKind.i64.wrap (Y * (m.wd : Int)) = Y * (m.wd : Int) := by rw [hm1]; exact IntWalk.i64_in _ (by omega)
                      have f2 : IntKind.i64.wrap (Y * (m.wd : Int) + X) = (idx : Int) := by rw [hsum]; exact IntWalk.i64_in _ (by omega)
                      have f3 := HCE.out idx hlt2
                      have HIX : Hid ((m.own idx = m.own ((cy - 1) * m.wd + (cx - 1))) ∧ True) := Lib.hid ⟨by rw [hidx], trivial⟩
                      have h64 : (idx : Int) < (m.n : Int) := by omega
                      clear hY hm1 hsum hidx
                      have HMA : Hid (Mem w10 w10.heap.size [] [rwI v t (rgL m hi t)] [(q8, .cells #[.int .i64 wb, v] 24 (0, 0))] (wz.alloc (.cells #[.int .i64 (m.own idx)] 3))) := Lib.hid (HMZ.out.grow ((Below.refl _ wz).alloc (Nat.le_refl _) _))
                      have HOW : Hid ((wz.alloc (.cells #[.int .i64 (m.own idx)] 3)).ownsRow w10.heap.size 3 1 v t (ints (rgL m hi t))) := Lib.hid (HMA.out.q (rwI v t (rgL m hi t)) (by simp))
                      have HRG : Hid (rgO m hi (t % (m.wd + 2)) (t / (m.wd + 2)) = (m.own idx)) := Lib.hid (by
                        have hX := HXY.out
                        rw [← hX.1, ← hX.2.1]
                        unfold rgO
                        rw [if_pos (by omega), ← HIX.out.1])
                      go_wp2_with (at_builtin; refine wpList_append_own_at _ rfl _ _ 22 rfl w10.heap.size 3 i0 (.int .i64 0) 1 8 Try.underlying22 HI.out.1 HI.out.2.1 HI.out.2.2.1 HI.out.2.2.2 rfl (by decide) _ _ _ rfl HOW.out ⟨wz.heap.size, 0, none⟩ 1 1 [.int .i64 (m.own idx)] rfl rfl (cell_one_new _ _ _) (by simp [Value.oneCell']) (by have := HT.out; unfold maxLen; omega) (by have := HT.out; omega) HMA.out.o ?_; intro v' w8 hown8 hgrow _ hat; have H3 := Mem.push (Q1 := []) (Q2 := []) (x := (m.own idx)) HMA.out hown8 hgrow hat; obtain ⟨g8, k8, rfl⟩ : ∃ g cap, v' = .slice (some ⟨g, 0, none⟩) (t + 1) cap := form_pos (r := rwI v' (t + 1) (rgL m hi t ++ [(m.own idx)])) (H3.q _ (by simp)) (show 0 < t + 1 by omega); obtain ⟨y0, y1, y2, y3⟩ := H3.box2 (List.mem_cons_self); have H4 := Lib.hid (H3.putX (X1 := []) 1 (.slice (some ⟨g8, 0, none⟩) (t + 1) k8)); clear hown8 hgrow hat H3)
                      go_roundw
                      case rel => exact ⟨t + 1, by omega, by go_num, _, Lib.hid (by have h := H4.out; rw [rgL_add, HRG.out]; simpa using h)⟩
                      case measure => simp [intOf]; omega
                    · have g4 : decide (Y < (hi : Int)) = false := by simpa using a4
                      have HMA : Hid (Mem w10 w10.heap.size [] [rwI v t (rgL m hi t)] [(q8, .cells #[.int .i64 wb, v] 24 (0, 0))] (wz.alloc (.cells #[.int .i64 9] 3))) := Lib.hid (HMZ.out.grow ((Below.refl _ wz).alloc (Nat.le_refl _) _))
                      have HOW : Hid ((wz.alloc (.cells #[.int .i64 9] 3)).ownsRow w10.heap.size 3 1 v t (ints (rgL m hi t))) := Lib.hid (HMA.out.q (rwI v t (rgL m hi t)) (by simp))
                      have HRG : Hid (rgO m hi (t % (m.wd + 2)) (t / (m.wd + 2)) = 9) := Lib.hid (by
                        have hX := HXY.out
                        rw [← hX.1, ← hX.2.1]
                        unfold rgO
                        exact if_neg (by omega))
                      go_wp2_with (at_builtin; refine wpList_append_own_at _ rfl _ _ 22 rfl w10.heap.size 3 i0 (.int .i64 0) 1 8 Try.underlying22 HI.out.1 HI.out.2.1 HI.out.2.2.1 HI.out.2.2.2 rfl (by decide) _ _ _ rfl HOW.out ⟨wz.heap.size, 0, none⟩ 1 1 [.int .i64 9] rfl rfl (cell_one_new _ _ _) (by simp [Value.oneCell']) (by have := HT.out; unfold maxLen; omega) (by have := HT.out; omega) HMA.out.o ?_; intro v' w8 hown8 hgrow _ hat; have H3 := Mem.push (Q1 := []) (Q2 := []) (x := 9) HMA.out hown8 hgrow hat; obtain ⟨g8, k8, rfl⟩ : ∃ g cap, v' = .slice (some ⟨g, 0, none⟩) (t + 1) cap := form_pos (r := rwI v' (t + 1) (rgL m hi t ++ [9])) (H3.q _ (by simp)) (show 0 < t + 1 by omega); obtain ⟨y0, y1, y2, y3⟩ := H3.box2 (List.mem_cons_self); have H4 := Lib.hid (H3.putX (X1 := []) 1 (.slice (some ⟨g8, 0, none⟩) (t + 1) k8)); clear hown8 hgrow hat H3)
                      go_roundw
                      case rel => exact ⟨t + 1, by omega, by go_num, _, Lib.hid (by have h := H4.out; rw [rgL_add, HRG.out]; simpa using h)⟩
                      case measure => simp [intOf]; omega
                  · have g3 : decide (X < (m.wd : Int)) = false := by simpa using a3
                    have HMA : Hid (Mem w10 w10.heap.size [] [rwI v t (rgL m hi t)] [(q8, .cells #[.int .i64 wb, v] 24 (0, 0))] (wz.alloc (.cells #[.int .i64 9] 3))) := Lib.hid (HMZ.out.grow ((Below.refl _ wz).alloc (Nat.le_refl _) _))
                    have HOW : Hid ((wz.alloc (.cells #[.int .i64 9] 3)).ownsRow w10.heap.size 3 1 v t (ints (rgL m hi t))) := Lib.hid (HMA.out.q (rwI v t (rgL m hi t)) (by simp))
                    have HRG : Hid (rgO m hi (t % (m.wd + 2)) (t / (m.wd + 2)) = 9) := Lib.hid (by
                      have hX := HXY.out
                      rw [← hX.1, ← hX.2.1]
                      unfold rgO
                      exact if_neg (by omega))
                    go_wp2_with (at_builtin; refine wpList_append_own_at _ rfl _ _ 22 rfl w10.heap.size 3 i0 (.int .i64 0) 1 8 Try.underlying22 HI.out.1 HI.out.2.1 HI.out.2.2.1 HI.out.2.2.2 rfl (by decide) _ _ _ rfl HOW.out ⟨wz.heap.size, 0, none⟩ 1 1 [.int .i64 9] rfl rfl (cell_one_new _ _ _) (by simp [Value.oneCell']) (by have := HT.out; unfold maxLen; omega) (by have := HT.out; omega) HMA.out.o ?_; intro v' w8 hown8 hgrow _ hat; have H3 := Mem.push (Q1 := []) (Q2 := []) (x := 9) HMA.out hown8 hgrow hat; obtain ⟨g8, k8, rfl⟩ : ∃ g cap, v' = .slice (some ⟨g, 0, none⟩) (t + 1) cap := form_pos (r := rwI v' (t + 1) (rgL m hi t ++ [9])) (H3.q _ (by simp)) (show 0 < t + 1 by omega); obtain ⟨y0, y1, y2, y3⟩ := H3.box2 (List.mem_cons_self); have H4 := Lib.hid (H3.putX (X1 := []) 1 (.slice (some ⟨g8, 0, none⟩) (t + 1) k8)); clear hown8 hgrow hat H3)
                    go_roundw
                    case rel => exact ⟨t + 1, by omega, by go_num, _, Lib.hid (by have h := H4.out; rw [rgL_add, HRG.out]; simpa using h)⟩
                    case measure => simp [intOf]; omega
                · have g2 : decide (0 ≤ Y) = false := by simpa using a2
                  have HMA : Hid (Mem w10 w10.heap.size [] [rwI v t (rgL m hi t)] [(q8, .cells #[.int .i64 wb, v] 24 (0, 0))] (wz.alloc (.cells #[.int .i64 9] 3))) := Lib.hid (HMZ.out.grow ((Below.refl _ wz).alloc (Nat.le_refl _) _))
                  have HOW : Hid ((wz.alloc (.cells #[.int .i64 9] 3)).ownsRow w10.heap.size 3 1 v t (ints (rgL m hi t))) := Lib.hid (HMA.out.q (rwI v t (rgL m hi t)) (by simp))
                  have HRG : Hid (rgO m hi (t % (m.wd + 2)) (t / (m.wd + 2)) = 9) := Lib.hid (by
                    have hX := HXY.out
                    rw [← hX.1, ← hX.2.1]
                    unfold rgO
                    exact if_neg (by omega))
                  go_wp2_with (at_builtin; refine wpList_append_own_at _ rfl _ _ 22 rfl w10.heap.size 3 i0 (.int .i64 0) 1 8 Try.underlying22 HI.out.1 HI.out.2.1 HI.out.2.2.1 HI.out.2.2.2 rfl (by decide) _ _ _ rfl HOW.out ⟨wz.heap.size, 0, none⟩ 1 1 [.int .i64 9] rfl rfl (cell_one_new _ _ _) (by simp [Value.oneCell']) (by have := HT.out; unfold maxLen; omega) (by have := HT.out; omega) HMA.out.o ?_; intro v' w8 hown8 hgrow _ hat; have H3 := Mem.push (Q1 := []) (Q2 := []) (x := 9) HMA.out hown8 hgrow hat; obtain ⟨g8, k8, rfl⟩ : ∃ g cap, v' = .slice (some ⟨g, 0, none⟩) (t + 1) cap := form_pos (r := rwI v' (t + 1) (rgL m hi t ++ [9])) (H3.q _ (by simp)) (show 0 < t + 1 by omega); obtain ⟨y0, y1, y2, y3⟩ := H3.box2 (List.mem_cons_self); have H4 := Lib.hid (H3.putX (X1 := []) 1 (.slice (some ⟨g8, 0, none⟩) (t + 1) k8)); clear hown8 hgrow hat H3)
                  go_roundw
                  case rel => exact ⟨t + 1, by omega, by go_num, _, Lib.hid (by have h := H4.out; rw [rgL_add, HRG.out]; simpa using h)⟩
                  case measure => simp [intOf]; omega
              · have g1 : decide (0 ≤ X) = false := by simpa using a1
                have HMA : Hid (Mem w10 w10.heap.size [] [rwI v t (rgL m hi t)] [(q8, .cells #[.int .i64 wb, v] 24 (0, 0))] (wz.alloc (.cells #[.int .i64 9] 3))) := Lib.hid (HMZ.out.grow ((Below.refl _ wz).alloc (Nat.le_refl _) _))
                have HOW : Hid ((wz.alloc (.cells #[.int .i64 9] 3)).ownsRow w10.heap.size 3 1 v t (ints (rgL m hi t))) := Lib.hid (HMA.out.q (rwI v t (rgL m hi t)) (by simp))
                have HRG : Hid (rgO m hi (t % (m.wd + 2)) (t / (m.wd + 2)) = 9) := Lib.hid (by
                  have hX := HXY.out
                  rw [← hX.1, ← hX.2.1]
                  unfold rgO
                  exact if_neg (by omega))
                go_wp2_with (at_builtin; refine wpList_append_own_at _ rfl _ _ 22 rfl w10.heap.size 3 i0 (.int .i64 0) 1 8 Try.underlying22 HI.out.1 HI.out.2.1 HI.out.2.2.1 HI.out.2.2.2 rfl (by decide) _ _ _ rfl HOW.out ⟨wz.heap.size, 0, none⟩ 1 1 [.int .i64 9] rfl rfl (cell_one_new _ _ _) (by simp [Value.oneCell']) (by have := HT.out; unfold maxLen; omega) (by have := HT.out; omega) HMA.out.o ?_; intro v' w8 hown8 hgrow _ hat; have H3 := Mem.push (Q1 := []) (Q2 := []) (x := 9) HMA.out hown8 hgrow hat; obtain ⟨g8, k8, rfl⟩ : ∃ g cap, v' = .slice (some ⟨g, 0, none⟩) (t + 1) cap := form_pos (r := rwI v' (t + 1) (rgL m hi t ++ [9])) (H3.q _ (by simp)) (show 0 < t + 1 by omega); obtain ⟨y0, y1, y2, y3⟩ := H3.box2 (List.mem_cons_self); have H4 := Lib.hid (H3.putX (X1 := []) 1 (.slice (some ⟨g8, 0, none⟩) (t + 1) k8)); clear hown8 hgrow hat H3)
                go_roundw
                case rel => exact ⟨t + 1, by omega, by go_num, _, Lib.hid (by have h := H4.out; rw [rgL_add, HRG.out]; simpa using h)⟩
                case measure => simp [intOf]; omega
            · obtain rfl : t = N := by omega
              obtain ⟨w11, rfl⟩ : ∃ w11, w11 = wr := ⟨_, rfl⟩
              have hNp : 0 < t := by have h := HN.out; rw [h]; exact Nat.mul_pos (by have := HWB.out; omega) (by have := HHB.out; omega)
              obtain ⟨g9, k9, rfl⟩ : ∃ g cap, v = .slice (some ⟨g, 0, none⟩) t cap := form_pos (r := rwI v t (rgL m hi t)) (hM.out.q _ (by simp)) hNp
              have HRB : Hid (Ringed m (bigM m hi)) := Lib.hid (bigM_ringed HM.out.1 HM.out.2.1 hwd6 hhi.2 (fun p _ => (own_range HM.out.2.2.2.1 p).2))
              have hbm : (⟨wb, rgL m hi t⟩ : Mp) = bigM m hi := by rw [HN.out, HWB.out, HHB.out]; rfl
              have HBR : Hid (IsReg (bigM m hi) (br m r) ∧ IsMany (bigM m hi) (br m r) (k + 1)) := Lib.hid ⟨HRB.out.reg HR.out.1, HRB.out.many HR.out.2⟩
              have he : errE (wb : Int) (rgL m hi t) = 0 := errE_made (hi := hb) (by have := HWB.out; omega) (by have := HHB.out; omega) (by rw [← HN.out]; omega) (by rw [rgL_length]; exact HN.out) (rgL_range HM.out.2.2.2.1)
              have HE := Lib.hid he
              have HBM := Lib.hid hbm
              obtain ⟨c0, c1, -, -⟩ := hM.out.box2 (List.mem_cons_self)
              have CDP := Lib.hid (Depths_any (wd := (wb : Int)) (B := w11.heap.size) (os := rgL m hi t) (w := w11) (by rw [rgL_length]; omega) (Nat.le_refl _) (hM.out.rsI (v := .slice (some ⟨g9, 0, none⟩) t k9) (n := t) (.inr (by simp)) (rgL_length _ _ _)))
              have HW11 : Hid (Below w5.heap.size w5 w11) := Lib.hid (HW.out.trans (hM.out.b.mono HW.out.size))
              clear he hbm hM hlt ht
              go_wp2_with fail
              refine CDP.out.mono ?_
              rintro e w12 ⟨hb12, ⟨-, v2, r2, k2, rfl, hr, hk, ho⟩ | ⟨he2, -⟩⟩
              case inr => exact absurd HE.out he2
              rw [Int.toNat_natCast, HBM.out] at hr hk ho
              obtain ⟨hrr, rfl⟩ := reg_same HBR.out.1 hr HBR.out.2 hk
              have hdd : depL (bigM m hi) r2 (k + 1) = depL (bigM m hi) (br m r) (k + 1) := List.map_congr_left (fun i _ => by rw [inCount_congr hrr])
              rw [hdd] at ho
              obtain ⟨g10, k10, rfl, -, -⟩ := RowK.of_owns ho (Nat.succ_pos k)
              have HD2 := Lib.hid (RS.of_owns ho)
              have HW12 : Hid (Below w5.heap.size w5 w12) := Lib.hid (HW11.out.trans (hb12.mono HW11.out.size))
              have HC7 : Hid (∀ W, Below w12.heap.size w12 W → W.cell? ⟨g10, 0, none⟩ = some (.int .i64 0) ∧ ∀ i, i < k → W.cell? ⟨gd, i, none⟩ = some (.int .i64 (inCount m r i k : Nat)) ∧ W.cell? ⟨g10, i + 1, none⟩ = some (.int .i64 ((inCount m r i k + 1 : Nat) : Int))) := Lib.hid fun W hW => by
                refine ⟨?_, fun i hq => ⟨(HK.out W (HW12.out.trans (hW.mono HW12.out.size))).2.1 i hq, ?_⟩⟩
                · have h := rs_cell (p := 0) (HD2.out.below hW) (by simp [depL])
                  rw [h, show (depL (bigM m hi) (br m r) (k + 1)).getD 0 0 = inCount (bigM m hi) (br m r) 0 (k + 1) from getD_mapR (fun i => (inCount (bigM m hi) (br m r) i (k + 1) : Int)) (Nat.succ_pos k), HRB.out.depth0]
                  rfl
                · have h := rs_cell (p := i + 1) (HD2.out.below hW) (by simp [depL]; omega)
                  rw [h, show (depL (bigM m hi) (br m r) (k + 1)).getD (i + 1) 0 = inCount (bigM m hi) (br m r) (i + 1) (k + 1) from getD_mapR (fun i => (inCount (bigM m hi) (br m r) i (k + 1) : Int)) (by omega), HRB.out.depth]
              obtain ⟨K1, hK1⟩ : ∃ K1 : Nat, K1 = k + 1 := ⟨_, rfl⟩
              rw [← hK1]
              have e7 : IntKind.i64.wrap ((k : Int) + 1) = (K1 : Int) := by rw [IntWalk.i64_in _ (by omega)]; omega
              have hk0 : 0 < K1 := by omega
              have hk00 : (0 : Int) < (K1 : Int) := by omega
              have HK1 := Lib.hid hK1
              have d0 := (HC7.out w12 (Below.refl _ _)).1
              clear hb12 hr hk ho hrr hdd hK1 CDP c0 c1
              go_wp2_with fail
              clear d0 e7 hk0 hk00
              go_loopw [263] (fun iv W => ∃ i : Nat, i ≤ k ∧ iv = .int .i64 i ∧ Hid (Below w12.heap.size w12 W)) (fun iv _ => k - (intOf iv).toNat)
              case atStart => exact ⟨0, Nat.zero_le _, rfl, Lib.hid (Below.refl _ _)⟩
              case round =>
                obtain ⟨i, hi7, rfl, hI⟩ := hrel
                by_cases hik : i < k
                · have hi64 : (i : Int) < k := by omega
                  obtain ⟨d1, d2⟩ := (HC7.out _ hI.out).2 i hik
                  have hle := inCount_le (m := m) (r := r) (i := i) k
                  obtain ⟨cc, hcc⟩ : ∃ c, c = inCount m r i k := ⟨_, rfl⟩
                  rw [← hcc] at d1 d2 hle
                  obtain ⟨c2, hc2⟩ : ∃ c, c = cc + 1 := ⟨_, rfl⟩
                  obtain ⟨j1, hj1⟩ : ∃ j, j = i + 1 := ⟨_, rfl⟩
                  rw [← hc2, ← hj1] at d2
                  have e8 : IntKind.i64.wrap ((cc : Int) + 1) = (c2 : Int) := by rw [IntWalk.i64_in _ (by omega)]; omega
                  have e9 : IntKind.i64.wrap ((i : Int) + 1) = (j1 : Int) := by rw [IntWalk.i64_in _ (by omega)]; omega
                  have hj : (j1 : Int) < (K1 : Int) := by have := HK1.out; omega
                  have hj' : j1 < K1 := by have := HK1.out; omega
                  have HJ1 := Lib.hid hj1
                  clear hcc hc2 hj1
                  go_wp2_with fail
                  go_roundw
                  case rel => exact ⟨i + 1, by omega, by rw [HJ1.out], hI⟩
                  case measure => have := HJ1.out; simp [intOf]; omega
                · obtain rfl : k = i := by omega
                  have CA := Lib.hid (awake_any wr)
                  go_wp2_with fail
                  refine CA.out.mono ?_
                  rintro e w13 ⟨rfl, hb13⟩
                  have hbb := HB.out.trans ((HW12.out.trans ((hI.out.trans (hb13.mono hI.out.size)).mono HW12.out.size)).mono HB.out.size)
                  have HBF := Lib.hid hbb
                  clear hb13 hbb
                  go_wp2
                  go_ret
                  exact ⟨rfl, HBF.out⟩
end Go.Proofs.Ytkjcnkkmhkcddaa
