/-
  Parts of the proof, in the order in which they build: DelI.
-/
import Derived.Test.YtohjinbgbfggcaaB1
set_option linter.unusedVariables false
set_option linter.unusedSimpArgs false
namespace Go.Proofs.Ytohjinbgbfggcaa
open Go.RowKit Go.Shelf
open Lim

theorem putRow_grown {α : Type} [Inhabited α] (enc : α → Value) (w : World) (n blk off : Nat) (d : Array α) : w.grownBy (Sort.putRow enc (Sort.ahead w n) blk off d) (some blk) := by
  refine ⟨rfl, rfl, rfl, by rw [Sort.size_putRow]; exact Nat.le_refl _, fun k hk hne => ?_⟩
  have hb : blk ≠ k := fun e => hne (by rw [e])
  simp [Sort.putRow, Sort.mapBlock, Sort.ahead, Array.getElem?_modify, hb]
/-- one number is taken out -/
theorem delete_any {base i : Nat} {v : Value} {L : List Int} {w : World} (hn : L.length ≤ 100000) (hi : i < L.length) (h : w.ownsRow base 3 1 v L.length (ints L)) :
    Calls Try.prog 86 #[v, .int .i64 i, .int .i64 ((i : Int) + 1)] w fun e w' => ∃ v', e = .returned v' ∧ w'.ownsRow base 3 1 v' (L.eraseIdx i).length (ints (L.eraseIdx i)) ∧ w.grownBy w' v.ownBlock := by
  rcases h.2 with ⟨rfl, h0⟩ | ⟨gg, cap, cur, rfl, hb, hg, hr1, hr2, hr3, ht⟩
  · omega
  · have hcl : cur.size = cap := by omega
    have hat : ∀ j, j < L.length → cur[j]? = some (.int .i64 L[j]!) := by
      intro j hj
      have h1 : (cur.toList.take (L.length * 1))[j]? = (ints L)[j]? := by rw [ht]
      rw [List.getElem?_take, if_pos (by omega), ints_at L j hj] at h1
      rw [getElem!_pos L j hj]; simpa using h1
    have hH : Sort.Holds (Value.int .i64) w gg 0 L.toArray := by
      intro j hj
      have hj : j < L.length := by simpa using hj
      refine ⟨?_, ?_⟩
      · simp only [World.cell?, hg, Nat.zero_add]
        rw [hat j hj]; simp
      · simp [World.frozen?, hg]
    have hdel := Try.slices_Delete_int gg 0 cap i (i + 1) L w hH hr1 (by unfold maxLen at hr2; omega) (by omega) (by omega)
    have e1 : ((i + 1 : Nat) : Int) = (i : Int) + 1 := by omega
    have e2 : i + 1 - i = 1 := by omega
    rw [e1, e2] at hdel
    refine hdel.mono ?_
    rintro e w' ⟨rfl, q, rfl⟩
    have hE : L.eraseIdx i = L.take i ++ L.drop (i + 1) := List.eraseIdx_eq_take_drop_succ _ _
    have hEl : (L.eraseIdx i).length = L.length - 1 := by rw [List.length_eraseIdx]; simp [hi]
    refine ⟨_, rfl, ⟨by simp [ints], .inr ⟨gg, cap, Sort.putCells (.int .i64) 0 (L.take i ++ L.drop (i + 1) ++ List.replicate 1 0).toArray cur, by rw [hEl], hb, ?_, by omega, hr2, by simp [Sort.putCells]; omega, ?_⟩⟩, putRow_grown _ _ _ _ _ _⟩
    · simp [Sort.putRow, Sort.mapBlock, Sort.ahead, Array.getElem?_modify, hg, Sort.onCells]
    · have hl2 : (L.take i ++ L.drop (i + 1) ++ List.replicate 1 0).length = L.length := by simp; omega
      apply List.ext_getElem?
      intro j
      rw [List.getElem?_take]
      by_cases hj : j < (L.eraseIdx i).length
      · have hjc : j < cur.size := by omega
        have hjL : j < (L.take i ++ L.drop (i + 1)).length := by rw [← hE]; exact hj
        rw [if_pos (by omega), ints_at _ j hj]
        simp only [Sort.putCells, Array.toList_mapIdx, List.getElem?_mapIdx, Array.getElem?_toList, Array.getElem?_eq_getElem hjc, Option.map_some]
        rw [if_pos ⟨by omega, by simp only [List.size_toArray]; omega⟩]
        congr 2
        simp only [Nat.sub_zero]
        rw [getElem!_pos _ j (by simp only [List.size_toArray]; omega)]
        simp only [List.getElem_toArray]
        rw [List.getElem_append_left hjL]
        simp only [hE]
      · rw [if_neg (by omega), List.getElem?_eq_none (by simp [ints]; omega)]
end Go.Proofs.Ytohjinbgbfggcaa
