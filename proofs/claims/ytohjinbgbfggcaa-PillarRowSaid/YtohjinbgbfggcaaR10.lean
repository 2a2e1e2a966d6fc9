/-
  Parts of the proof, in the order in which they build: RwB.
-/
import Derived.Test.YtohjinbgbfggcaaA58
set_option linter.unusedVariables false
set_option linter.unusedSimpArgs false
namespace Go.Proofs.Ytohjinbgbfggcaa
open Go.RowKit Go.Shelf
open Lim
section
variable {w : World} {S d c c' : Nat} {R Q : List Row} {X : List (Nat × Obj)} {W W' : World}
/-- one element in a block of its own -/
theorem one_owned (W : World) {e n : Nat} {xs : List Value} (hl : xs.length = n) (hn : 0 < n) : (⟨e, n, .slice (some ⟨W.heap.size, 0, none⟩) 1 1, 1, xs⟩ : Row).Owned (W.alloc (.cells xs.toArray e)) W.heap.size := by
  refine ⟨by simp [hl], .inr ⟨W.heap.size, 1, xs.toArray, rfl, Nat.le_refl _, heap_alloc_new W _, ?_⟩⟩
  refine ⟨Nat.le_refl _, by unfold maxLen; omega, by simp [hl], ?_⟩
  simp [← hl]
theorem Mem.insOne {Q1 Q2 : List Row} {e n : Nat} (H : Mem w S d c R (Q1 ++ Q2) X W) {xs : List Value} (hl : xs.length = n) (hn : 0 < n) :
    Mem w S d c R (Q1 ++ ⟨e, n, .slice (some ⟨W.heap.size, 0, none⟩) 1 1, 1, xs⟩ :: Q2) X (W.alloc (.cells xs.toArray e)) :=
  H.insQ ((Below.refl W.heap.size W).alloc (Nat.le_refl _) _) (one_owned W hl hn)
/-- spans are appended to a list of spans -/
theorem Mem.moreS {Q1 Q2 : List Row} {v v' : Value} {n m : Nat} {A B : List (Int × Int)} (H : Mem w S d c R (Q1 ++ rwS v n A :: Q2) X W) (ho : W'.ownsRow S 28 2 v' m (spans A ++ spans B)) (hg : W.grownBy W' v.ownBlock) (hat : v'.ownBlock = v.ownBlock ∨ v'.ownBlock = some W.heap.size) :
    Mem w S d c R (Q1 ++ rwS v' m (A ++ B) :: Q2) X W' :=
  H.putQ (r := rwS v n A) (r' := rwS v' m (A ++ B)) hg (by
    show W'.ownsRow S 28 2 v' m (spans (A ++ B))
    rw [spans_append]
    exact ho) (hat.imp id (fun h => ⟨_, h, Nat.le_refl _⟩))
theorem three_cellsD {W : World} {q : Nat} {a b e : Value} {t : TypeId} (h : W.heap[q]? = some (.cells #[a, b, e] t (0, 0))) : (W.cell? ⟨q, 0, none⟩ = some a ∧ W.cell? ⟨q, 1, none⟩ = some b ∧ W.cell? ⟨q, 2, none⟩ = some e) ∧ W.frozen? ⟨q, 0, none⟩ = false ∧ W.frozen? ⟨q, 1, none⟩ = false ∧ W.frozen? ⟨q, 2, none⟩ = false := by
  refine ⟨⟨?_, ?_, ?_⟩, ?_, ?_, ?_⟩ <;> simp [World.cell?, World.frozen?, h]
theorem Mem.box3 (H : Mem w S d c R Q X W) {q : Nat} {a b e : Value} {t : TypeId} (h : (q, Obj.cells #[a, b, e] t (0, 0)) ∈ X) : W.cell? ⟨q, 0, none⟩ = some a ∧ W.cell? ⟨q, 1, none⟩ = some b ∧ W.cell? ⟨q, 2, none⟩ = some e := (three_cellsD (H.x _ h).2).1
/-- three cells of a box are written -/
theorem Mem.put3 {X1 X2 : List (Nat × Obj)} {p : Nat} {u0 u1 u2 : Value} {t : TypeId} (H : Mem w S d c R Q (X1 ++ (p, .cells #[u0, u1, u2] t (0, 0)) :: X2) W) (a b e : Value) :
    Mem w S d c R Q (X1 ++ (p, .cells #[a, b, e] t (0, 0)) :: X2) (((W.setCell ⟨p, 0, none⟩ a).setCell ⟨p, 1, none⟩ b).setCell ⟨p, 2, none⟩ e) :=
  ((H.putX 0 a).putX 1 b).putX 2 e
end
theorem owned_cap {W : World} {S : Nat} {r : Row} {g n cap : Nat} (h : r.Owned W S) (hv : r.v = .slice (some ⟨g, 0, none⟩) n cap) : n ≤ cap := by
  rcases h.2 with ⟨h1, -⟩ | ⟨g', cap', cur, h1, -, -, h2⟩
  · rw [hv] at h1; cases h1
  · rw [hv] at h1
    have e := Value.slice.inj h1
    rw [e.2.1, e.2.2]
    exact h2.1
/-- a box of a ground -/
def zeroG : Obj := .cells #[.int .i64 0, .slice none 0 0, .slice none 0 0] 34 (0, 0)
def boxG (n : Int) (h s : Value) : Obj := .cells #[.int .i64 n, h, s] 34 (0, 0)
end Go.Proofs.Ytohjinbgbfggcaa
