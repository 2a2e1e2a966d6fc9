/-
  Parts of the proof, in the order in which they build: Fine, Two.
-/
import Derived.Test.YtdgibmgifgdpbaaH16
import Derived.Test.YtdgibmgifgdpbaaH13
import Derived.Test.YtdgibmgifgdpbaaH3
import Derived.Test.YtdgibmgifgdpbaaH8
set_option linter.unusedVariables false
set_option linter.unusedSimpArgs false
/-
  A list of heights that is written while all else is kept.
-/
namespace Go.Proofs.Ytdgibmgifgdpbaa
open Go.RowKit Go.Shelf
open Lim

/-- memory while the heights of a ground that was made anew are written: w0 is how it lay before -/
structure FiS (w0 : World) (d c p cap q n : Nat) (wd : Int) (sv : Value) (ss : List Int) (L : List (Int × Int)) (W : World) : Prop where
  gr : w0.grownBy W (some d)
  dk : Deck W d c
  h : W.ownsRow w0.heap.size 54 2 (.slice (some ⟨p, 0, none⟩) n cap) n (spans L)
  s : W.ownsRow w0.heap.size 3 1 sv ss.length (ints ss)
  bx : W.heap[q]? = some (.cells #[.int .i64 wd, .slice (some ⟨p, 0, none⟩) n cap, sv] 25 (0, 0))
  q : w0.heap.size ≤ q ∧ d < w0.heap.size
theorem FiS.dealt {w0 : World} {d c p cap q n : Nat} {wd : Int} {sv : Value} {ss : List Int} {L : List (Int × Int)} {W W' : World} (H : FiS w0 d c p cap q n wd sv ss L W) (hd : Dealt d c W W') : FiS w0 d (c + 1) p cap q n wd sv ss L W' :=
  ⟨grown_trans H.gr hd.2.1, hd.1, owns_grown H.h hd.2.1 (fun r e => by cases e; exact H.q.2), owns_grown H.s hd.2.1 (fun r e => by cases e; exact H.q.2), (hd.2.1.block _ (Array.getElem?_eq_some_iff.1 H.bx).1 (fun e => by have := H.q; cases e; omega)).trans H.bx, H.q⟩
theorem FiS.grow {w0 : World} {d c p cap q n : Nat} {wd : Int} {sv : Value} {ss : List Int} {L : List (Int × Int)} {W W' : World} (H : FiS w0 d c p cap q n wd sv ss L W) (hb : Below W.heap.size W W') : FiS w0 d c p cap q n wd sv ss L W' :=
  ⟨grown_on H.gr hb, H.dk.below hb, owns_below H.h hb, owns_below H.s hb, heap_grow H.bx hb, H.q⟩
theorem FiS.put {w0 : World} {d c p cap q n : Nat} {wd : Int} {sv : Value} {ss : List Int} {L : List (Int × Int)} {W : World} (H : FiS w0 d c p cap q n wd sv ss L W) (k : Nat) (x y : Int) : FiS w0 d c p cap q n wd sv ss (L.set k (x, y)) ((W.setCell ⟨p, k * 2, none⟩ (.int .i64 x)).setCell ⟨p, k * 2 + 1, none⟩ (.int .i64 y)) := by
  obtain ⟨hS, hlt, cs, hp⟩ := owned_block (r := ⟨54, 2, .slice (some ⟨p, 0, none⟩) n cap, n, spans L⟩) H.h (k := p) rfl
  have hp : W.heap[p]? = some (.cells cs 54 (0, 0)) := hp
  have off : ∀ r, r ≠ p → ((W.setCell ⟨p, k * 2, none⟩ (.int .i64 x)).setCell ⟨p, k * 2 + 1, none⟩ (.int .i64 y)).heap[r]? = W.heap[r]? := fun r hr => by
    rw [Below.heap_setCell _ _ _ r hr, Below.heap_setCell _ _ _ r hr]
  have ne : ∀ (r : Nat) (t : TypeId) (cs : Array Value) (fr : Nat × Nat), W.heap[r]? = some (Obj.cells cs t fr) → t ≠ 54 → r ≠ p := fun r t cs fr hr ht e => by
    subst e; rw [hp] at hr; cases hr; exact ht rfl
  have hq := H.q
  exact ⟨grown_far (grown_far H.gr hS _ _) hS _ _, (H.dk.far (by omega) _ _).far (by omega) _ _, span_put H.h k x y,
    owned_keep (r := ⟨3, 1, sv, ss.length, ints ss⟩) H.s (fun r hr => off _ (by
      obtain ⟨-, -, cs', hc⟩ := owned_block (r := ⟨3, 1, sv, ss.length, ints ss⟩) H.s hr
      have hc : W.heap[r]? = some (.cells cs' 3 (0, 0)) := hc
      exact ne _ _ _ _ hc (by decide))),
    (off _ (ne _ _ _ _ H.bx (by decide))).trans H.bx, H.q⟩
theorem FiS.box {w0 : World} {d c p cap q n : Nat} {wd : Int} {sv : Value} {ss : List Int} {L : List (Int × Int)} {W : World} (H : FiS w0 d c p cap q n wd sv ss L W) : W.cell? ⟨q, 0, none⟩ = some (.int .i64 wd) ∧ W.cell? ⟨q, 1, none⟩ = some (.slice (some ⟨p, 0, none⟩) n cap) ∧ W.cell? ⟨q, 2, none⟩ = some sv := (cell_of_heap H.bx).1
/-- a sea is written -/
theorem FiS.putS {w0 : World} {d c p cap q n g gc : Nat} {wd : Int} {ss : List Int} {L : List (Int × Int)} {W : World} (H : FiS w0 d c p cap q n wd (.slice (some ⟨g, 0, none⟩) ss.length gc) ss L W) (j : Nat) (v : Int) : FiS w0 d c p cap q n wd (.slice (some ⟨g, 0, none⟩) ss.length gc) (ss.set j v) L (W.setCell ⟨g, j, none⟩ (.int .i64 v)) := by
  obtain ⟨hS, hlt, cs, hp⟩ := owned_block (r := ⟨3, 1, .slice (some ⟨g, 0, none⟩) ss.length gc, ss.length, ints ss⟩) H.s (k := g) rfl
  have hp : W.heap[g]? = some (.cells cs 3 (0, 0)) := hp
  have off : ∀ r, r ≠ g → (W.setCell ⟨g, j, none⟩ (.int .i64 v)).heap[r]? = W.heap[r]? := fun r hr => by rw [Below.heap_setCell _ _ _ r hr]
  have ne : ∀ (r : Nat) (t : TypeId) (cs : Array Value) (fr : Nat × Nat), W.heap[r]? = some (Obj.cells cs t fr) → t ≠ 3 → r ≠ g := fun r t cs fr hr ht e => by
    subst e; rw [hp] at hr; cases hr; exact ht rfl
  have hq := H.q
  refine ⟨grown_far H.gr hS _ _, H.dk.far (by omega) _ _,
    owned_keep (r := ⟨54, 2, .slice (some ⟨p, 0, none⟩) n cap, n, spans L⟩) H.h (fun r hr => off _ (by
      obtain ⟨-, -, cs', hc⟩ := owned_block (r := ⟨54, 2, .slice (some ⟨p, 0, none⟩) n cap, n, spans L⟩) H.h hr
      have hc : W.heap[r]? = some (.cells cs' 54 (0, 0)) := hc
      exact ne _ _ _ _ hc (by decide))), ?_, (off _ (ne _ _ _ _ H.bx (by decide))).trans H.bx, H.q⟩
  have h2 := (H.s.stored j (.int .i64 v)).1
  rw [List.length_set]
  have e : ints (ss.set j v) = (ints ss).set j (.int .i64 v) := by unfold ints; rw [List.map_set]
  rw [e]
  exact h2
/-- what was kept before is kept -/
theorem Kept.fine {w w0 : World} {S d c c' : Nat} {R : List Row} {X : List (Nat × Obj)} (K : Kept w S d c R X w0) {p cap q n : Nat} {wd : Int} {sv : Value} {ss : List Int} {L : List (Int × Int)} {W : World} (H : FiS w0 d c' p cap q n wd sv ss L W) : Kept w S d c' R X W := K.draw H.gr H.dk
theorem Kept.fined {w w0 : World} {S d c c' : Nat} {R : List Row} {X : List (Nat × Obj)} (K : Kept w S d c R X w0) {p cap q : Nat} {wd : Int} {sv : Value} {ss : List Int} {L : List (Int × Int)} {W : World} (H : FiS w0 d c' p cap q L.length wd sv ss L W) :
    Kept w S d c' (rwH (.slice (some ⟨p, 0, none⟩) L.length cap) L :: rwI sv ss :: R) ((q, .cells #[.int .i64 wd, .slice (some ⟨p, 0, none⟩) L.length cap, sv] 25 (0, 0)) :: X) W :=
  (((K.fine H).addR (r := rwI sv ss) K.o.2.2 H.s).addR (r := rwH (.slice (some ⟨p, 0, none⟩) L.length cap) L) K.o.2.2 H.h).addX (Nat.le_trans K.o.2.2 H.q.1) H.bx
/-- a clone that is boxed -/
theorem FiS.of {w w0 w1 : World} {S d c : Nat} {R : List Row} {X : List (Nat × Obj)} (K : Kept w S d c R X w0) {p cap g gc n : Nat} {wd : Int} {ss : List Int} {L : List (Int × Int)} (hb : Below w0.heap.size w0 w1) (o1 : w1.ownsRow w0.heap.size 54 2 (.slice (some ⟨p, 0, none⟩) n cap) n (spans L)) (o2 : w1.ownsRow w0.heap.size 3 1 (.slice (some ⟨g, 0, none⟩) ss.length gc) ss.length (ints ss)) :
    FiS w0 d c p cap w1.heap.size n wd (.slice (some ⟨g, 0, none⟩) ss.length gc) ss L (w1.alloc (.cells #[.int .i64 wd, .slice (some ⟨p, 0, none⟩) n cap, .slice (some ⟨g, 0, none⟩) ss.length gc] 25)) := by
  have hb2 : Below w1.heap.size w1 (w1.alloc (.cells #[.int .i64 wd, .slice (some ⟨p, 0, none⟩) n cap, .slice (some ⟨g, 0, none⟩) ss.length gc] 25)) := (Below.refl _ w1).alloc (Nat.le_refl _) _
  have ho := K.o
  exact ⟨grown_on (grown_on (grown_refl w0 _) hb) hb2, (K.dk.below hb).below hb2, owns_below o1 hb2, owns_below o2 hb2, heap_alloc_new w1 _, hb.size, by omega⟩
end Go.Proofs.Ytdgibmgifgdpbaa
/-
  Two sides that are laid and filled in a drawn order.
-/
namespace Go.Proofs.Ytdgibmgifgdpbaa
open Go.RowKit Go.Shelf
open Lim

def sideObj (full : Bool) (x1 x2 x3 : Bool) : Obj := .cells (if full then #[.bool x1, .bool x2, .bool x3] else #[.bool false, .bool false, .bool false]) 41 (0, 0)
structure TwoS (W0 : World) (x1 x2 x3 y1 y2 y3 : Bool) (done : Nat → Bool) (u v : Value) (W : World) : Prop where
  b : Below W0.heap.size W0 W
  d8 : done 8 = true → ∃ p, u = .pointer (some ⟨p, 0, none⟩) ∧ W0.heap.size ≤ p ∧ W.heap[p]? = some (sideObj (done 10) x1 x2 x3)
  d9 : done 9 = true → ∃ p, v = .pointer (some ⟨p, 0, none⟩) ∧ W0.heap.size ≤ p ∧ W.heap[p]? = some (sideObj (done 11) y1 y2 y3)
  ne : done 8 = true → done 9 = true → u ≠ v
  w10 : done 10 = true → done 8 = true
  w11 : done 11 = true → done 9 = true
theorem TwoS.st8 {W0 : World} {x1 x2 x3 y1 y2 y3 : Bool} {done : Nat → Bool} {u v : Value} {W : World} (H : TwoS W0 x1 x2 x3 y1 y2 y3 done u v W) (hd : done 8 = false) :
    TwoS W0 x1 x2 x3 y1 y2 y3 (fun j => if j = 8 then true else done j) (.pointer (some ⟨W.heap.size, 0, none⟩)) v (W.alloc (.cells #[.bool false, .bool false, .bool false] 41)) := by
  have h10 : done 10 = false := by
    cases e : done 10 with
    | false => rfl
    | true => have := H.w10 e; rw [hd] at this; cases this
  have hb : Below W.heap.size W (W.alloc (.cells #[.bool false, .bool false, .bool false] 41)) := (Below.refl _ W).alloc (Nat.le_refl _) _
  refine ⟨H.b.trans (hb.mono H.b.size), fun _ => ⟨_, rfl, H.b.size, by rw [if_neg (by decide), h10]; exact heap_alloc_new W _⟩, fun h => ?_, fun _ h e => ?_, fun h => by simp, fun h => by simpa using H.w11 (by simpa using h)⟩
  · obtain ⟨p, h1, h2, h3⟩ := H.d9 (by simpa using h)
    exact ⟨p, h1, h2, heap_grow h3 hb⟩
  · obtain ⟨p, h1, h2, h3⟩ := H.d9 (by simpa using h)
    rw [h1] at e
    have : W.heap.size = p := by simpa using e
    have := (Array.getElem?_eq_some_iff.1 h3).1
    omega
theorem TwoS.st9 {W0 : World} {x1 x2 x3 y1 y2 y3 : Bool} {done : Nat → Bool} {u v : Value} {W : World} (H : TwoS W0 x1 x2 x3 y1 y2 y3 done u v W) (hd : done 9 = false) :
    TwoS W0 x1 x2 x3 y1 y2 y3 (fun j => if j = 9 then true else done j) u (.pointer (some ⟨W.heap.size, 0, none⟩)) (W.alloc (.cells #[.bool false, .bool false, .bool false] 41)) := by
  have h10 : done 11 = false := by
    cases e : done 11 with
    | false => rfl
    | true => have := H.w11 e; rw [hd] at this; cases this
  have hb : Below W.heap.size W (W.alloc (.cells #[.bool false, .bool false, .bool false] 41)) := (Below.refl _ W).alloc (Nat.le_refl _) _
  refine ⟨H.b.trans (hb.mono H.b.size), fun h => ?_, fun _ => ⟨_, rfl, H.b.size, by rw [if_neg (by decide), h10]; exact heap_alloc_new W _⟩, fun h _ e => ?_, fun h => by simpa using H.w10 (by simpa using h), fun h => by simp⟩
  · obtain ⟨p, h1, h2, h3⟩ := H.d8 (by simpa using h)
    exact ⟨p, h1, h2, heap_grow h3 hb⟩
  · obtain ⟨p, h1, h2, h3⟩ := H.d8 (by simpa using h)
    rw [h1] at e
    have : p = W.heap.size := by simpa using e
    have := (Array.getElem?_eq_some_iff.1 h3).1
    omega
theorem TwoS.st10 {W0 : World} {x1 x2 x3 y1 y2 y3 : Bool} {done : Nat → Bool} {p : Nat} {v : Value} {W : World} (H : TwoS W0 x1 x2 x3 y1 y2 y3 done (.pointer (some ⟨p, 0, none⟩)) v W) (h8 : done 8 = true) (h9 : done 9 = true) (hd : done 10 = false) :
    TwoS W0 x1 x2 x3 y1 y2 y3 (fun j => if j = 10 then true else done j) (.pointer (some ⟨p, 0, none⟩)) v (((W.setCell ⟨p, 0, none⟩ (.bool x1)).setCell ⟨p, 1, none⟩ (.bool x2)).setCell ⟨p, 2, none⟩ (.bool x3)) := by
  obtain ⟨p', h1, h2, h3⟩ := H.d8 h8
  have e : p = p' := by simpa using h1
  subst e
  rw [hd] at h3
  obtain ⟨q, h4, h5, h6⟩ := H.d9 h9
  have hq : q ≠ p := fun e => H.ne h8 h9 (by rw [h4, e])
  refine ⟨((H.b.setCell (p := ⟨p, 0, none⟩) h2 _).setCell (p := ⟨p, 1, none⟩) h2 _).setCell (p := ⟨p, 2, none⟩) h2 _, fun _ => ⟨p, rfl, h2, ?_⟩, fun _ => ⟨q, h4, h5, ?_⟩, fun _ _ => H.ne h8 h9, fun _ => by simpa using h8, fun h => by simpa using H.w11 (by simpa using h)⟩
  · rw [heap_setCell_self _ (heap_setCell_self _ (heap_setCell_self _ h3))]
    simp [sideObj]
  · rw [Below.heap_setCell _ _ _ q hq, Below.heap_setCell _ _ _ q hq, Below.heap_setCell _ _ _ q hq, h6]
    simp
theorem TwoS.st11 {W0 : World} {x1 x2 x3 y1 y2 y3 : Bool} {done : Nat → Bool} {p : Nat} {u : Value} {W : World} (H : TwoS W0 x1 x2 x3 y1 y2 y3 done u (.pointer (some ⟨p, 0, none⟩)) W) (h8 : done 8 = true) (h9 : done 9 = true) (hd : done 11 = false) :
    TwoS W0 x1 x2 x3 y1 y2 y3 (fun j => if j = 11 then true else done j) u (.pointer (some ⟨p, 0, none⟩)) (((W.setCell ⟨p, 0, none⟩ (.bool y1)).setCell ⟨p, 1, none⟩ (.bool y2)).setCell ⟨p, 2, none⟩ (.bool y3)) := by
  obtain ⟨p', h1, h2, h3⟩ := H.d9 h9
  have e : p = p' := by simpa using h1
  subst e
  rw [hd] at h3
  obtain ⟨q, h4, h5, h6⟩ := H.d8 h8
  have hq : q ≠ p := fun e => H.ne h8 h9 (by rw [h4, e])
  refine ⟨((H.b.setCell (p := ⟨p, 0, none⟩) h2 _).setCell (p := ⟨p, 1, none⟩) h2 _).setCell (p := ⟨p, 2, none⟩) h2 _, fun _ => ⟨q, h4, h5, ?_⟩, fun _ => ⟨p, rfl, h2, ?_⟩, fun _ _ => H.ne h8 h9, fun h => by simpa using H.w10 (by simpa using h), fun _ => by simpa using h9⟩
  · rw [Below.heap_setCell _ _ _ q hq, Below.heap_setCell _ _ _ q hq, Below.heap_setCell _ _ _ q hq, h6]
    simp
  · rw [heap_setCell_self _ (heap_setCell_self _ (heap_setCell_self _ h3))]
    simp [sideObj]
theorem TwoS.begin (W0 : World) {x1 x2 x3 y1 y2 y3 : Bool} {u v : Value} : TwoS W0 x1 x2 x3 y1 y2 y3 (fun _ => false) u v W0 :=
  ⟨Below.refl _ _, fun h => (by cases h), fun h => (by cases h), fun h => (by cases h), fun h => (by cases h), fun h => (by cases h)⟩
end Go.Proofs.Ytdgibmgifgdpbaa
