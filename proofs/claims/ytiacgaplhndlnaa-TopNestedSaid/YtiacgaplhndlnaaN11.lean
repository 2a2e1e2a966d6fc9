/-
  Parts of the proof, in the order in which they build: Mk.
-/
import Derived.Test.YtiacgaplhndlnaaRows
import Derived.OwnWalkIn
import Derived.OwnWalk
import Derived.Maps.AppendAt
import Derived.Laws.AppendOwn
import Derived.Shelf.Abstract
import Derived.WalkKit
import Derived.WalkSpells
import Derived.WalkLawsBesides
import Derived.Test.YtiacgaplhndlnaaN2
import Derived.Test.YtiacgaplhndlnaaN3
set_option linter.unusedVariables false
set_option linter.unusedSimpArgs false
namespace Go.Proofs.Ytiacgaplhndlnaa
open Go.RowKit Go.Shelf
open Lim

theorem keeps_of_below {w w' : World} (h : Below w.heap.size w w') : KeepsOthers w w' :=
  ⟨h.size, fun k _ hk _ => (h.block k (Array.getElem?_eq_some_iff.1 hk).1).trans hk⟩
/-- marks that all lie below B -/
def MarksLt (S B : Nat) (ds : List Deferred) (w : World) : Prop := ∃ Ds : List Nat, ds = Ds.map markOf ∧ Ds.Nodup ∧ ∀ D ∈ Ds, S ≤ D ∧ D < B ∧ w.heap[D]? = some (.deferred (some []))
theorem MarksLt.of_marks {S : Nat} {ds : List Deferred} {w : World} (h : Marks S ds w) : MarksLt S w.heap.size ds w := by
  obtain ⟨Ds, h1, h2, h3⟩ := h
  exact ⟨Ds, h1, h2, fun D hD => ⟨(h3 D hD).1, (Array.getElem?_eq_some_iff.1 (h3 D hD).2).1, (h3 D hD).2⟩⟩
theorem MarksLt.marks {S B : Nat} {ds : List Deferred} {w : World} (h : MarksLt S B ds w) : Marks S ds w := by
  obtain ⟨Ds, h1, h2, h3⟩ := h
  exact ⟨Ds, h1, h2, fun D hD => ⟨(h3 D hD).1, (h3 D hD).2.2⟩⟩
theorem MarksLt.steady {S B : Nat} {ds : List Deferred} {w w' : World} (h : MarksLt S B ds w) (hs : Steady B w w') : MarksLt S B ds w' := by
  obtain ⟨Ds, h1, h2, h3⟩ := h
  exact ⟨Ds, h1, h2, fun D hD => ⟨(h3 D hD).1, (h3 D hD).2.1, hs.same D _ (h3 D hD).2.2 (.inl (h3 D hD).2.1)⟩⟩
theorem MarksLt.keeps {S B : Nat} {ds : List Deferred} {w w' : World} (h : MarksLt S B ds w) (hs : KeepsOthers w w') : MarksLt S B ds w' := by
  obtain ⟨Ds, h1, h2, h3⟩ := h
  exact ⟨Ds, h1, h2, fun D hD => ⟨(h3 D hD).1, (h3 D hD).2.1, hs.same D _ (h3 D hD).2.2 rfl⟩⟩
theorem Lim.Marks.keep {S : Nat} {ds : List Deferred} {w w' : World} (h : Marks S ds w) (hs : KeepsOthers w w') : Marks S ds w' := by
  obtain ⟨Ds, h1, h2, h3⟩ := h
  exact ⟨Ds, h1, h2, fun D hD => ⟨(h3 D hD).1, hs.same D _ (h3 D hD).2 rfl⟩⟩
theorem MarksLt.cons {S B : Nat} {ds : List Deferred} {w : World} (h : MarksLt S B ds w) (hB : S ≤ B) {D : Nat} (hD : B ≤ D) (hk : w.heap[D]? = some (.deferred (some []))) : Marks S (markOf D :: ds) w := by
  obtain ⟨Ds, h1, h2, h3⟩ := h
  refine ⟨D :: Ds, by simp [h1], List.nodup_cons.2 ⟨fun hm => by have := (h3 D hm).2.1; omega, h2⟩, fun E hE => ?_⟩
  rcases List.mem_cons.1 hE with rfl | hE
  · exact ⟨by omega, hk⟩
  · exact ⟨(h3 E hE).1, (h3 E hE).2.2⟩

theorem MarksLt.grown {S B' : Nat} {ds : List Deferred} {w w' : World} {row : Option Nat} (h : MarksLt S B' ds w) (hg : w.grownBy w' row) (hr : ∀ r, row = some r → r < S) : MarksLt S B' ds w' := by
  obtain ⟨Ds, h1, h2, h3⟩ := h
  refine ⟨Ds, h1, h2, fun D hD => ⟨(h3 D hD).1, (h3 D hD).2.1, (hg.block D (Array.getElem?_eq_some_iff.1 (h3 D hD).2.2).1 (fun e => ?_)).trans (h3 D hD).2.2⟩⟩
  have := hr D e.symm
  have := (h3 D hD).1
  omega
/-- the queue's block lies apart from the blocks from lo on, below hi -/
def ApartR (q lo hi : Nat) (W : World) : Prop := ∀ v g, W.cell? ⟨q, 0, none⟩ = some v → v.ownBlock = some g → g < lo ∨ hi ≤ g
theorem ApartR.of_cell {q lo hi : Nat} {W W' : World} {v : Value} (h : ApartR q lo hi W) (hv : W.cell? ⟨q, 0, none⟩ = some v) (hv' : W'.cell? ⟨q, 0, none⟩ = some v) : ApartR q lo hi W' := fun u g hu hg => h u g (hv.trans (hv'.symm.trans hu)) hg
theorem keeps_of_row {w w1 : World} {base e size : Nat} {v : Value} {n : Nat} {xs : List Value} (h : w.ownsRow base e size v n xs) (hg : w.grownBy w1 v.ownBlock) : KeepsOthers w w1 := by
  refine .of_grownBy hg (fun j o hj ho => ?_)
  rcases h.2 with ⟨rfl, _⟩ | ⟨g, cap, cur, rfl, hb, hgg, _⟩
  · simp [Value.ownBlock] at hj
  · simp [Value.ownBlock] at hj
    subst hj
    rw [hgg] at ho; cases ho; rfl
theorem results_one {P : Program} {fn : Func} {p : Tmp} (h : fn.results = #[.tmp p]) (tmps : Array Value) (w : World) {v : Value} (hv : tmps.getD p undef = v) : (results fn tmps).run P w = .ok v w := by
  subst hv
  simp [results, h]
theorem Try.infoInt : (Try.prog.info? 3).map (fun i => (i.zero, i.size, i.bytes)) = some (some (.int .i64 0), 1, 8) := by kernel_rfl
def noPanic (Q : Exit → Act → World → Prop) : Exit → Act → World → Prop
  | .panic _, _, _ => False
  | e, a, w => Q e a w
theorem wp_noPanic {P : Program} {c : Code} {Q : Exit → Act → World → Prop} {a : Act} {w : World} (h : c.wp P (noPanic Q) a w) : c.wp P Q a w := by
  refine wp_mono h ?_
  intro e a w h
  cases e <;> first | exact h | exact h.elim
end Go.Proofs.Ytiacgaplhndlnaa
