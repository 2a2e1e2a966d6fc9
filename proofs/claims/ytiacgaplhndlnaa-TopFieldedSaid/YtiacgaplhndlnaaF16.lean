/-
  Parts of the proof, in the order in which they build: EvR.
-/
import Derived.Test.YtiacgaplhndlnaaRows
import Derived.Shelf.Abstract
import Derived.WalkSpells
import Derived.WalkLawsBesides
import Derived.Laws.EntriesVeiled
import Derived.Lib.Hide
import Derived.IntWalk
import Derived.BigQuiet
import Derived.Test.YtiacgaplhndlnaaF3
import Derived.Test.YtiacgaplhndlnaaF1
import Derived.Test.YtiacgaplhndlnaaF9
import Derived.Test.YtiacgaplhndlnaaF8
set_option linter.unusedVariables false
set_option linter.unusedSimpArgs false
namespace Go.Proofs.Ytiacgaplhndlnaa
open Go.RowKit Go.Shelf
open Lim

theorem putRow_grown {α : Type} [Inhabited α] (enc : α → Value) (w : World) (n blk off : Nat) (d : Array α) : w.grownBy (Sort.putRow enc (Sort.ahead w n) blk off d) (some blk) := by
  refine ⟨rfl, rfl, rfl, by rw [Sort.size_putRow]; exact Nat.le_refl _, fun k hk hne => ?_⟩
  have hb : blk ≠ k := fun e => hne (by rw [e])
  simp [Sort.putRow, Sort.mapBlock, Sort.ahead, Array.getElem?_modify, hb]
/-- a list of numbers that the call made is turned round -/
theorem reverse_any {base : Nat} {v : Value} {L : List Int} {w : World} (hn : L.length ≤ 100000) (h : w.ownsRow base 3 1 v L.length (ints L)) :
    Calls Try.prog 159 #[v] w fun e w' => e = .returned (.tuple #[]) ∧ w'.ownsRow base 3 1 v L.length (ints L.reverse) ∧ w.grownBy w' v.ownBlock := by
  rcases h.2 with ⟨rfl, h0⟩ | ⟨gg, cap, cur, rfl, hb, hg, hr1, hr2, hr3, ht⟩
  · have hL : L = [] := by cases L <;> simp_all [ints]
    subst hL
    exact (Try.slices_Reverse_int_empty none 0 w).mono (by rintro e w' ⟨rfl, rfl⟩; exact ⟨rfl, h, .refl _ _⟩)
  · have hcl : cur.size = cap := by omega
    have hat : ∀ j, j < L.length → cur[j]? = some (.int .i64 L[j]!) := by
      intro j hj
      have h1 : (cur.toList.take (L.length * 1))[j]? = (ints L)[j]? := by rw [ht]
      rw [List.getElem?_take, if_pos (by omega), ints_at L j hj] at h1
      rw [getElem!_pos L j hj]; simpa using h1
    have hH : Sort.Holds (Value.int .i64) w gg 0 L.toArray := by
      intro j hj
      have hj : j < L.length := by simpa using hj
      refine ⟨?_, ?_⟩
      · simp only [World.cell?, hg, Nat.zero_add]
        rw [hat j hj]; simp
      · simp [World.frozen?, hg]
    refine (Try.slices_Reverse_int gg 0 cap L w hH (by omega)).mono ?_
    rintro e w' ⟨rfl, n, rfl⟩
    refine ⟨rfl, ⟨by simp [ints], .inr ⟨gg, cap, Sort.putCells (.int .i64) 0 L.reverse.toArray cur, rfl, hb, ?_, hr1, hr2, by simp [Sort.putCells]; omega, ?_⟩⟩, putRow_grown _ _ _ _ _ _⟩
    · simp [Sort.putRow, Sort.mapBlock, Sort.ahead, Array.getElem?_modify, hg, Sort.onCells]
    · apply List.ext_getElem?
      intro j
      rw [List.getElem?_take]
      by_cases hj : j < L.length
      · have hjc : j < cur.size := by omega
        rw [if_pos (by omega), ints_at _ j (by simpa using hj)]
        simp [Sort.putCells, hjc, hj]
      · rw [if_neg (by omega), List.getElem?_eq_none (by simp [ints]; omega)]
end Go.Proofs.Ytiacgaplhndlnaa
