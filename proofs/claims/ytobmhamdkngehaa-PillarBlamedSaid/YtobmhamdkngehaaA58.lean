/-
  Parts of the proof, in the order in which they build: PsA.
-/
import Derived.Test.YtobmhamdkngehaaA48
import Derived.Test.YtobmhamdkngehaaA54
set_option linter.unusedVariables false
set_option linter.unusedSimpArgs false
namespace Go.Proofs.Ytobmhamdkngehaa
open Go.RowKit Go.Shelf
open Lim

def bareW (W : World) : World := { W with heap := #[] }
theorem grown_mix {W0 W W' : World} {d : Nat} {b : Option Nat} (h : W0.grownBy W (some d)) (hg : W.grownBy W' b) (hb : ∀ k, b = some k → W0.heap.size ≤ k) : W0.grownBy W' (some d) :=
 ⟨hg.os.trans h.os, hg.tape.trans h.tape, hg.output.trans h.output, Nat.le_trans h.size hg.size, fun k hk hr => (hg.block k (Nat.lt_of_lt_of_le hk h.size) (fun e => by have := hb k e.symm; omega)).trans (h.block k hk hr)⟩
/-- rows R that are read, Q that are written, boxes X, all made by the call that began at W0; a deck at d; and nothing else of W0 is changed -/
structure MemG (W0 : World) (d c : Nat) (R Q : List Row) (X : List (Nat × Obj)) (W : World) : Prop where
 m : Mem (bareW W0) W0.heap.size d c R Q X W
 g : W0.grownBy W (some d)
section
variable {W0 : World} {d c c' : Nat} {R Q : List Row} {X : List (Nat × Obj)} {W W' : World}
theorem MemG.start (h : Deck W0 d c) : MemG W0 d c [] [] [] W0 := by
 have hd : d < W0.heap.size := by obtain ⟨cv, l, k, s, h, -⟩ := h; exact World.block_lt_of_cell? _ _ h.c.1
 refine ⟨⟨⟨rfl, rfl, rfl, Nat.zero_le _, fun k hk => absurd hk (Nat.not_lt_zero _)⟩, ⟨Nat.zero_le _, hd, Nat.le_refl _⟩, h, fun r hr => (by cases hr), fun r hr => (by cases hr), fun p hp => (by cases hp), fun p hp => (by cases hp), fun p hp => (by cases hp), List.Pairwise.nil, List.Pairwise.nil, fun q hq => (by cases hq)⟩, grown_refl _ _⟩
theorem MemG.dealt (H : MemG W0 d c R Q X W) (h : Dealt d c W W') : MemG W0 d (c + 1) R Q X W' := ⟨H.m.dealt h, grown_trans H.g h.2.1⟩
theorem MemG.more (H : MemG W0 d c R Q X W) (h : c ≤ c') : MemG W0 d c' R Q X W := ⟨H.m.more h, H.g⟩
theorem MemG.grow (H : MemG W0 d c R Q X W) (hb : Below W.heap.size W W') : MemG W0 d c R Q X W' := ⟨H.m.grow hb, grown_on H.g hb⟩
theorem MemG.drew (H : MemG W0 d c R Q X W) : MemG W0 d c R Q X W.drew := H.grow (Below.refl _ _).drew
theorem MemG.nilQ (H : MemG W0 d c R Q X W) (e size : Nat) : MemG W0 d c R (nilRow e size :: Q) X W := ⟨H.m.nilQ e size, H.g⟩
theorem MemG.lay (H : MemG W0 d c R Q X W) (o : Obj) : MemG W0 d c R Q ((W.heap.size, o) :: X) (W.alloc o) := ⟨H.m.lay o, grown_on H.g ((Below.refl _ W).alloc (Nat.le_refl _) o)⟩
theorem MemG.less (H : MemG W0 d c R Q X W) {R' Q' : List Row} {X' : List (Nat × Obj)} (hR : ∀ r ∈ R', r ∈ R) (hQ : Q'.Sublist Q) (hX : X'.Sublist X) : MemG W0 d c R' Q' X' W := ⟨H.m.less hR hQ hX, H.g⟩
theorem MemG.putQ {Q1 Q2 : List Row} {r r' : Row} (H : MemG W0 d c R (Q1 ++ r :: Q2) X W) (hg : W.grownBy W' r.v.ownBlock) (ho : r'.Owned W' W0.heap.size) (hb : r'.v.ownBlock = r.v.ownBlock ∨ ∃ k, r'.v.ownBlock = some k ∧ W.heap.size ≤ k) : MemG W0 d c R (Q1 ++ r' :: Q2) X W' :=
 ⟨H.m.putQ hg ho hb, grown_mix H.g hg (fun k e => (owned_block (H.m.q r (by simp)) e).1)⟩
theorem MemG.putX {X1 X2 : List (Nat × Obj)} {p : Nat} {cs : Array Value} {t : TypeId} {fr : Nat × Nat} (H : MemG W0 d c R Q (X1 ++ (p, .cells cs t fr) :: X2) W) (j : Nat) (v : Value) : MemG W0 d c R Q (X1 ++ (p, .cells (cs.setIfInBounds j v) t fr) :: X2) (W.setCell ⟨p, j, none⟩ v) :=
 ⟨H.m.putX j v, grown_far H.g (H.m.x (p, .cells cs t fr) (by simp)).1 j v⟩
/-- one element in a block of its own -/
theorem MemG.one {Q1 Q2 : List Row} {e n : Nat} (H : MemG W0 d c R (Q1 ++ nilRow e n :: Q2) X W) {xs : List Value} (hl : xs.length = n) (hn : 0 < n) :
  MemG W0 d c R (Q1 ++ ⟨e, n, .slice (some ⟨W.heap.size, 0, none⟩) 1 1, 1, xs⟩ :: Q2) X (W.alloc (.cells xs.toArray e)) := by
 have hb := (Below.refl W.heap.size W).alloc (Nat.le_refl _) (.cells xs.toArray e)
 refine H.putQ ⟨hb.os, hb.tape, hb.output, hb.size, fun k hk _ => hb.block k hk⟩ ?_ (.inr ⟨_, rfl, Nat.le_refl _⟩)
 refine ⟨by simp [hl], .inr ⟨W.heap.size, 1, xs.toArray, rfl, H.m.o.2.2, heap_alloc_new W _, ?_⟩⟩
 refine ⟨Nat.le_refl _, by unfold maxLen; omega, by simp [hl], ?_⟩
 simp [← hl]
theorem MemG.permQ {Q' : List Row} (H : MemG W0 d c R Q X W) (h : Q.Perm Q') : MemG W0 d c R Q' X W := ⟨H.m.permQ h, H.g⟩
theorem MemG.nilAt {Q1 Q2 : List Row} (H : MemG W0 d c R (Q1 ++ Q2) X W) (e n : Nat) : MemG W0 d c R (Q1 ++ nilRow e n :: Q2) X W := (H.nilQ e n).permQ List.perm_middle.symm
theorem box_cell {w : World} {S d c : Nat} {R Q : List Row} {X : List (Nat × Obj)} {W : World} (H : Mem w S d c R Q X W) {p j : Nat} {cs : Array Value} {t : TypeId} {v : Value} (h : (p, Obj.cells cs t (0, 0)) ∈ X) (hj : cs[j]? = some v) : W.cell? ⟨p, j, none⟩ = some v ∧ W.frozen? ⟨p, j, none⟩ = false := by
 have hx := (H.x _ h).2
 refine ⟨?_, ?_⟩
 ·simp [World.cell?, hx, hj]
 ·simp [World.frozen?, hx]
theorem cond_one (b : Bool) : cond b 1 0 ≤ 1 := by cases b <;> decide
theorem MemG.pushI {Q1 Q2 : List Row} {v v' : Value} {A : List Int} {x : Int} (H : MemG W0 d c R (Q1 ++ rwI v A.length A :: Q2) X W) (ho : W'.ownsRow W0.heap.size 3 1 v' (A.length + 1) (ints A ++ [.int .i64 x])) (hg : W.grownBy W' v.ownBlock) (hat : v'.ownBlock = v.ownBlock ∨ v'.ownBlock = some W.heap.size) :
  MemG W0 d c R (Q1 ++ rwI v' (A ++ [x]).length (A ++ [x]) :: Q2) X W' :=
 H.putQ (r := rwI v A.length A) (r' := rwI v' (A ++ [x]).length (A ++ [x])) hg (by
  show W'.ownsRow W0.heap.size 3 1 v' (A ++ [x]).length (ints (A ++ [x]))
  rw [show (A ++ [x]).length = A.length + 1 by simp, show ints (A ++ [x]) = ints A ++ [.int .i64 x] by simp [ints]]
  exact ho) (hat.imp id (fun h => ⟨_, h, Nat.le_refl _⟩))
theorem spans_snoc' (A : List (Int × Int)) (x y : Int) : spans (A ++ [(x, y)]) = spans A ++ [.int .i64 x, .int .i64 y] := by
 rw [spans_append]; rfl
theorem MemG.pushS {Q1 Q2 : List Row} {v v' : Value} {A : List (Int × Int)} {x y : Int} (H : MemG W0 d c R (Q1 ++ rwS v A.length A :: Q2) X W) (ho : W'.ownsRow W0.heap.size 25 2 v' (A.length + 1) (spans A ++ [.int .i64 x, .int .i64 y])) (hg : W.grownBy W' v.ownBlock) (hat : v'.ownBlock = v.ownBlock ∨ v'.ownBlock = some W.heap.size) :
  MemG W0 d c R (Q1 ++ rwS v' (A ++ [(x, y)]).length (A ++ [(x, y)]) :: Q2) X W' :=
 H.putQ (r := rwS v A.length A) (r' := rwS v' (A ++ [(x, y)]).length (A ++ [(x, y)])) hg (by
  show W'.ownsRow W0.heap.size 25 2 v' (A ++ [(x, y)]).length (spans (A ++ [(x, y)]))
  rw [show (A ++ [(x, y)]).length = A.length + 1 by simp, spans_snoc']
  exact ho) (hat.imp id (fun h => ⟨_, h, Nat.le_refl _⟩))
end
end Go.Proofs.Ytobmhamdkngehaa
