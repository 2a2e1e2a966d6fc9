/-
  Parts of the proof, in the order in which they build: Pd.
-/
import Derived.Deep.CutRange
import Derived.BigQuiet
import Derived.Test.YtobmhamdkngehaaA40
set_option linter.unusedVariables false
set_option linter.unusedSimpArgs false
namespace Go.Proofs.Ytobmhamdkngehaa
open Go.RowKit Go.Shelf
open Lim

/-- a profile that is made, with a truth -/
structure MadeP (M : Nat) (p : Pf) (T : List Int) : Prop where
  n : 2 ≤ p.ats.length ∧ p.ats.length ≤ M
  gl : p.gr.length = p.ats.length
  tl : T.length = p.ats.length
  tall : 0 ≤ p.tall ∧ p.tall ≤ 29
  bd : 0 ≤ p.lo ∧ p.lo ≤ p.hi ∧ p.hi ≤ 398
  h : ∀ c, c < p.ats.length → 0 ≤ (p.gr.getD c (0, 0)).1 ∧ (p.gr.getD c (0, 0)).1 ≤ T.getD c 0 ∧ T.getD c 0 ≤ (p.gr.getD c (0, 0)).2 ∧ (p.gr.getD c (0, 0)).2 ≤ 67
  a0 : ∀ c, c < p.ats.length → 0 ≤ p.ats.getD c 0 ∧ p.ats.getD c 0 ≤ 49 + 400 * c
  a1 : ∀ c, c + 1 < p.ats.length → p.ats.getD c 0 < p.ats.getD (c + 1) 0
theorem getD_snoc {α : Type} (l : List α) (x d : α) (c : Nat) : (l ++ [x]).getD c d = if c < l.length then l.getD c d else if c = l.length then x else d := by
  rw [List.getD_eq_getElem?_getD, List.getD_eq_getElem?_getD]
  by_cases h : c < l.length
  · rw [if_pos h, List.getElem?_append_left h]
  · rw [if_neg h, List.getElem?_append_right (by omega)]
    by_cases h2 : c = l.length
    · rw [if_pos h2, h2, Nat.sub_self]; rfl
    · rw [if_neg h2, List.getElem?_eq_none (by simp; omega)]; rfl
theorem MaS.out {w : World} {d : Nat} {wd : Int × Int × Int} {c : Nat} {hv sv tv : Value} {k : Nat} {hs : List Int} {ss : List (Int × Int)} {T : List Int} {u6 : Row} {W : World} (H : MaS w d wd c hv sv tv k hs ss T u6 W) (a b c1 d1 e1 : Value) (W' : World) (hW : W' = ((((W.setCell ⟨w.heap.size, 0, none⟩ a).setCell ⟨w.heap.size, 1, none⟩ b).setCell ⟨w.heap.size, 2, none⟩ c1).setCell ⟨w.heap.size, 3, none⟩ d1).setCell ⟨w.heap.size, 4, none⟩ e1) :
    Deck W' d c ∧ w.grownBy W' (some d) ∧ W'.ownsRow w.heap.size 3 1 hv k (ints hs) ∧ W'.ownsRow w.heap.size 25 2 sv k (spans ss) ∧ W'.ownsRow w.heap.size 3 1 tv k (ints T) := by
  have hl := H.lt
  have ht : ∀ i, i < 3 → 27 ≠ (rows3 hv sv tv k hs ss T (nilRow 3 1) (nilRow 25 2) (nilRow 3 1) u6 i).e := fun i hi => by
    match i with
    | 0 => show 27 ≠ 3; decide
    | 1 => show 27 ≠ 25; decide
    | 2 => show 27 ≠ 3; decide
    | i + 3 => omega
  have far : ∀ k, k ≠ w.heap.size → W'.heap[k]? = W.heap[k]? := fun k hk => by
    rw [hW, Below.heap_setCell _ _ _ k hk, Below.heap_setCell _ _ _ k hk, Below.heap_setCell _ _ _ k hk, Below.heap_setCell _ _ _ k hk, Below.heap_setCell _ _ _ k hk]
  have own : ∀ i, i < 3 → (rows3 hv sv tv k hs ss T (nilRow 3 1) (nilRow 25 2) (nilRow 3 1) u6 i).Owned W' w.heap.size := fun i hi =>
    owned_keep (H.sep.own i (by omega)) (fun q hq => far q (fun e => by
      obtain ⟨-, -, cs, hc⟩ := owned_block (H.sep.own i (by omega)) hq
      rw [e, H.zz] at hc
      exact ht i hi (Obj.cells.inj (Option.some.inj hc)).2.1))
  refine ⟨?_, ?_, own 0 (by omega), own 1 (by omega), own 2 (by omega)⟩
  · subst hW; exact ((((H.dk.far (by omega) 0 _).far (by omega) 1 _).far (by omega) 2 _).far (by omega) 3 _).far (by omega) 4 _
  · subst hW; exact grown_far (grown_far (grown_far (grown_far (grown_far H.gr (Nat.le_refl _) 0 _) (Nat.le_refl _) 1 _) (Nat.le_refl _) 2 _) (Nat.le_refl _) 3 _) (Nat.le_refl _) 4 _
theorem MaS.bend {w : World} {d : Nat} {wd : Int × Int × Int} {c : Nat} {hv sv tv : Value} {k : Nat} {hs : List Int} {ss : List (Int × Int)} {T : List Int} {u6 : Row} {W : World} (H : MaS w d wd c hv sv tv k hs ss T u6 W) (hu : 27 ≠ u6.e) (x y : Int) :
    MaS w d (wd.1, x, y) c hv sv tv k hs ss T u6 ((W.setCell ⟨w.heap.size + 1, 3, none⟩ (.int .i64 x)).setCell ⟨w.heap.size + 1, 4, none⟩ (.int .i64 y)) := by
  have ht : ∀ i, i < 7 → 27 ≠ (rows3 hv sv tv k hs ss T (nilRow 3 1) (nilRow 25 2) (nilRow 3 1) u6 i).e := fun i hi => by
    match i with
    | 0 => show 27 ≠ 3; decide
    | 1 => show 27 ≠ 25; decide
    | 2 => show 27 ≠ 3; decide
    | 3 => show 27 ≠ 3; decide
    | 4 => show 27 ≠ 25; decide
    | 5 => show 27 ≠ 3; decide
    | 6 => exact hu
    | i + 7 => omega
  have hl := H.lt
  have hb1 : (W.setCell ⟨w.heap.size + 1, 3, none⟩ (.int .i64 x)).heap[w.heap.size + 1]? = some (.cells #[hv, sv, .int .i64 wd.1, .int .i64 x, .int .i64 wd.2.2] 27 (0, 0)) := by rw [heap_setCell_self _ H.bx]; rfl
  exact ⟨grown_far (grown_far H.gr (Nat.le_succ _) 3 _) (Nat.le_succ _) 4 _, (H.dk.far (Nat.lt_succ_of_lt hl) 3 _).far (Nat.lt_succ_of_lt hl) 4 _,
    (Below.heap_setCell _ ⟨w.heap.size + 1, 4, none⟩ _ _ (by show w.heap.size ≠ w.heap.size + 1; omega)).trans ((Below.heap_setCell _ ⟨w.heap.size + 1, 3, none⟩ _ _ (by show w.heap.size ≠ w.heap.size + 1; omega)).trans H.zz),
    by rw [heap_setCell_self _ hb1]; rfl, (H.sep.setAt H.bx ht _).setAt hb1 ht _, hl⟩
end Go.Proofs.Ytobmhamdkngehaa
