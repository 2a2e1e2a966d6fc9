/-
  Parts of the proof, in the order in which they build: PoH.
-/
import Derived.Test.YtohjinbgbfggcaaA45
import Derived.Test.YtohjinbgbfggcaaA19
set_option linter.unusedVariables false
set_option linter.unusedSimpArgs false
namespace Go.Proofs.Ytohjinbgbfggcaa
open Go.RowKit Go.Shelf
open Lim

theorem spans_put (x y : Int) : ∀ (l : List (Int × Int)) (k : Nat), spans (l.set k (x, y)) = ((spans l).set (k * 2) (.int .i64 x)).set (k * 2 + 1) (.int .i64 y)
  | [], _ => by simp [spans]
  | s :: l, 0 => by rw [List.set_cons_zero, spans_cons, spans_cons]; rfl
  | s :: l, k + 1 => by
    rw [List.set_cons_succ, spans_cons, spans_cons, spans_put x y l k, show (k + 1) * 2 = k * 2 + 1 + 1 by omega]
    rfl
theorem apart_types {W : World} {S S' : Nat} {r s : Row} (hr : r.Owned W S) (hs : s.Owned W S') (h : r.e ≠ s.e) : r.Apart s := fun k h1 h2 => by
  obtain ⟨-, -, cs, h3⟩ := owned_block hr h1
  obtain ⟨-, -, cs', h4⟩ := owned_block hs h2
  rw [h3] at h4
  exact h (Obj.cells.inj (Option.some.inj h4)).2.1
section
variable {w : World} {S d c c' : Nat} {R Q : List Row} {X : List (Nat × Obj)} {W W' : World}
/-- rows that a call has made -/
theorem Mem.addQs (H : Mem w S d c R Q X W) (hb : Below W.heap.size W W') {P : List Row} (hP : ∀ r ∈ P, r.Owned W' W.heap.size) (hPP : P.Pairwise Row.Apart) : Mem w S d c R (P ++ Q) X W' := by
  have H1 := H.grow hb
  refine ⟨H1.b, H1.o, H1.dk, H1.r, fun q hq => ?_, H1.x, H1.xr, fun p hp q hq => ?_, H1.xx, List.pairwise_append.2 ⟨hPP, H1.qq, fun q hq s hs k h1 h2 => ?_⟩, fun q hq s hs => ?_⟩
  · rcases List.mem_append.1 hq with hq | hq
    · exact owns_mono (hP q hq) H.o.2.2
    · exact H1.q q hq
  · rcases List.mem_append.1 hq with hq | hq
    · intro e
      have h1 := (owned_block (hP q hq) e).1
      have h2 := H.lt hp
      omega
    · exact H1.xq p hp q hq
  · have h3 := (owned_block (hP q hq) h1).1
    have h4 := (owned_block (H.q s hs) h2).2.1
    omega
  · rcases List.mem_append.1 hq with hq | hq
    · intro k h1 h2
      have h3 := (owned_block (hP q hq) h1).1
      have h4 := (owned_block (H.r s hs) h2).2.1
      omega
    · exact H1.qr q hq s hs
/-- two rows of different types, in the middle -/
theorem Mem.ins2 {Q1 Q2 : List Row} (H : Mem w S d c R (Q1 ++ Q2) X W) (hb : Below W.heap.size W W') {r s : Row} (hr : r.Owned W' W.heap.size) (hs : s.Owned W' W.heap.size) (h : r.e ≠ s.e) : Mem w S d c R (Q1 ++ ([r, s] ++ Q2)) X W' :=
  (H.addQs hb (P := [r, s]) (fun q hq => by
    rcases List.mem_cons.1 hq with rfl | hq
    · exact hr
    · rcases List.mem_singleton.1 hq with rfl
      exact hs) (List.pairwise_cons.2 ⟨fun q hq => by
        rcases List.mem_singleton.1 hq with rfl
        exact apart_types hr hs h, List.pairwise_singleton _ _⟩)).permQ (List.perm_append_comm_assoc _ _ _)
theorem Mem.assocQ {X1 X2 X3 : List Row} (H : Mem w S d c R (X1 ++ (X2 ++ X3)) X W) : Mem w S d c R ((X1 ++ X2) ++ X3) X W := by rw [List.append_assoc]; exact H
theorem Mem.unassocQ {X1 X2 X3 : List Row} (H : Mem w S d c R ((X1 ++ X2) ++ X3) X W) : Mem w S d c R (X1 ++ (X2 ++ X3)) X W := by rw [← List.append_assoc]; exact H
theorem Mem.setS {Q1 Q2 : List Row} {g n cap : Nat} {l : List (Int × Int)} (H : Mem w S d c R (Q1 ++ rwS (.slice (some ⟨g, 0, none⟩) n cap) n l :: Q2) X W) (k : Nat) (x y : Int) :
    Mem w S d c R (Q1 ++ rwS (.slice (some ⟨g, 0, none⟩) n cap) n (l.set k (x, y)) :: Q2) X ((W.setCell ⟨g, k * 2, none⟩ (.int .i64 x)).setCell ⟨g, k * 2 + 1, none⟩ (.int .i64 y)) := by
  refine H.putQ (grown_set (d := g) _ (grown_set (d := g) W (grown_refl W _) _ _) _ _) ?_ (.inl rfl)
  have h := H.q (rwS (.slice (some ⟨g, 0, none⟩) n cap) n l) (by simp)
  have h1 := (World.ownsRow.stored h (k * 2) (.int .i64 x)).1
  have h2 := (World.ownsRow.stored h1 (k * 2 + 1) (.int .i64 y)).1
  show World.ownsRow _ _ _ _ _ _ (spans (l.set k (x, y)))
  rw [spans_put]
  exact h2
end
end Go.Proofs.Ytohjinbgbfggcaa
