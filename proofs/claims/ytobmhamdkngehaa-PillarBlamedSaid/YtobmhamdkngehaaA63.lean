/-
  Parts of the proof, in the order in which they build: PsF.
-/
import Derived.Test.YtobmhamdkngehaaB10
import Derived.Test.YtobmhamdkngehaaC59
set_option linter.unusedVariables false
set_option linter.unusedSimpArgs false
namespace Go.Proofs.Ytobmhamdkngehaa
open Go.RowKit Go.Shelf
open Lim

/-- one number is taken out -/
theorem delete_own {base i : Nat} {v : Value} {L : List Int} {w : World} (hn : L.length ≤ 100000) (hi : i < L.length) (h : w.ownsRow base 3 1 v L.length (ints L)) :
    Calls Try.prog 42 #[v, .int .i64 i, .int .i64 ((i : Int) + 1)] w fun e w' => ∃ v', e = .returned v' ∧ w'.ownsRow base 3 1 v' (L.eraseIdx i).length (ints (L.eraseIdx i)) ∧ w.grownBy w' v.ownBlock ∧ v'.ownBlock = v.ownBlock := by
  rcases h.2 with ⟨rfl, h0⟩ | ⟨gg, cap, cur, rfl, hb, hg, hr1, hr2, hr3, ht⟩
  · omega
  · have hcl : cur.size = cap := by omega
    have hat : ∀ j, j < L.length → cur[j]? = some (.int .i64 L[j]!) := by
      intro j hj
      have h1 : (cur.toList.take (L.length * 1))[j]? = (ints L)[j]? := by rw [ht]
      rw [List.getElem?_take, if_pos (by omega), ints_at L j hj] at h1
      rw [getElem!_pos L j hj]; simpa using h1
    have hH : Sort.Holds (Value.int .i64) w gg 0 L.toArray := by
      intro j hj
      have hj : j < L.length := by simpa using hj
      refine ⟨?_, ?_⟩
      · simp only [World.cell?, hg, Nat.zero_add]
        rw [hat j hj]; simp
      · simp [World.frozen?, hg]
    have hdel := Try.slices_Delete_int gg 0 cap i (i + 1) L w hH hr1 (by unfold maxLen at hr2; omega) (by omega) (by omega)
    have e1 : ((i + 1 : Nat) : Int) = (i : Int) + 1 := by omega
    have e2 : i + 1 - i = 1 := by omega
    rw [e1, e2] at hdel
    refine hdel.mono ?_
    rintro e w' ⟨rfl, q, rfl⟩
    have hE : L.eraseIdx i = L.take i ++ L.drop (i + 1) := List.eraseIdx_eq_take_drop_succ _ _
    have hEl : (L.eraseIdx i).length = L.length - 1 := by rw [List.length_eraseIdx]; simp [hi]
    refine ⟨_, rfl, ⟨by simp [ints], .inr ⟨gg, cap, Sort.putCells (.int .i64) 0 (L.take i ++ L.drop (i + 1) ++ List.replicate 1 0).toArray cur, by rw [hEl], hb, ?_, by omega, hr2, by simp [Sort.putCells]; omega, ?_⟩⟩, putRow_grown _ _ _ _ _ _, rfl⟩
    · simp [Sort.putRow, Sort.mapBlock, Sort.ahead, Array.getElem?_modify, hg, Sort.onCells]
    · have hl2 : (L.take i ++ L.drop (i + 1) ++ List.replicate 1 0).length = L.length := by simp; omega
      apply List.ext_getElem?
      intro j
      rw [List.getElem?_take]
      by_cases hj : j < (L.eraseIdx i).length
      · have hjc : j < cur.size := by omega
        have hjL : j < (L.take i ++ L.drop (i + 1)).length := by rw [← hE]; exact hj
        rw [if_pos (by omega), ints_at _ j hj]
        simp only [Sort.putCells, Array.toList_mapIdx, List.getElem?_mapIdx, Array.getElem?_toList, Array.getElem?_eq_getElem hjc, Option.map_some]
        rw [if_pos ⟨by omega, by simp only [List.size_toArray]; omega⟩]
        congr 2
        simp only [Nat.sub_zero]
        rw [getElem!_pos _ j (by simp only [List.size_toArray]; omega)]
        simp only [List.getElem_toArray]
        rw [List.getElem_append_left hjL]
        simp only [hE]
      · rw [if_neg (by omega), List.getElem?_eq_none (by simp [ints]; omega)]
/-- spans but the first one -/
theorem rs_tail {W : World} {S n cap g : Nat} {L : List (Int × Int)} (h : W.ownsRow S 25 2 (.slice (some ⟨g, 0, none⟩) n cap) n (spans L)) (h1 : 1 ≤ n) (hn : n ≤ cap) :
    RS W.heap.size W (.slice (if cap = 1 then some ⟨g, 0, none⟩ else some ⟨g, 2, none⟩) (n - 1) (cap - 1)) (L.drop 1).length (spans (L.drop 1)) := by
  have hl : L.length = n := by have := h.1; rw [spans_length] at this; omega
  have hd : (L.drop 1).length = n - 1 := by rw [List.length_drop, hl]
  rw [hd]
  by_cases hc : cap = 1
  · rw [if_pos hc]
    rw [show L.drop 1 = [] from List.eq_nil_of_length_eq_zero (by omega)]
    exact ⟨_, _, rfl, fun h => absurd rfl h⟩
  · rw [if_neg hc]
    have := rs_sub h (a := 1) (m := n - 1) (c := cap - 1) (by omega)
    rw [List.take_of_length_le (by omega)] at this
    exact this
theorem rs_init {W : World} {S n cap g : Nat} {L : List (Int × Int)} (h : W.ownsRow S 25 2 (.slice (some ⟨g, 0, none⟩) n cap) n (spans L)) {j : Nat} (hj : j ≤ n) :
    RS W.heap.size W (.slice (some ⟨g, 0, none⟩) j cap) (L.take j).length (spans (L.take j)) := by
  have hl : L.length = n := by have := h.1; rw [spans_length] at this; omega
  have hd : (L.take j).length = j := by rw [List.length_take]; omega
  rw [hd]
  have := rs_sub h (a := 0) (m := j) (c := cap) (by omega)
  rw [Nat.zero_mul, List.drop_zero] at this
  exact this
/-- the gaps F behind the first step: the gap ahead of stone k is longer by mv -/
def MovA (f F : List (Int × Int)) (k : Nat) (mv : Int) : Prop := -40 ≤ mv ∧ mv ≤ 39 ∧ ((k = 0 ∧ F = f) ∨ (0 < k ∧ F = f.set (k - 1) ((f.getD (k - 1) (0, 0)).1 + mv, (f.getD (k - 1) (0, 0)).2 + mv) ∧ 1 ≤ (f.getD (k - 1) (0, 0)).1 + mv))
section
variable {f F : List (Int × Int)} {k : Nat} {mv : Int}
theorem MovA.len (H : MovA f F k mv) : F.length = f.length := by
  rcases H.2.2 with ⟨-, rfl⟩ | ⟨-, rfl, -⟩
  · rfl
  · exact List.length_set
theorem MovA.at (H : MovA f F k mv) (hk : k < f.length) : F.getD k (0, 0) = f.getD k (0, 0) := by
  rcases H.2.2 with ⟨-, rfl⟩ | ⟨h, rfl, -⟩
  · rfl
  · rw [getD_set' (by omega), if_neg (by omega)]
theorem MovA.last (H : MovA f F k mv) (h0 : 0 < k) (hk : k = f.length) (ho : ∀ s ∈ f, 1 ≤ s.1 ∧ s.1 ≤ s.2 ∧ s.2 ≤ 1000) : MovedF f F k := by
  obtain ⟨h1, h2, ⟨h, -⟩ | ⟨h, rfl, h3⟩⟩ := H
  · omega
  · have := ho _ (getD_mem (z := (0, 0)) (show k - 1 < f.length by omega))
    exact moved_last h hk ho (by omega)
theorem MovA.mid (H : MovA f F k mv) (h0 : 0 < k) (hk : k < f.length) (ho : ∀ s ∈ f, 1 ≤ s.1 ∧ s.1 ≤ s.2 ∧ s.2 ≤ 1000) (hs : 1 ≤ (f.getD k (0, 0)).1 - mv) : MovedF f (F.set k ((f.getD k (0, 0)).1 - mv, (f.getD k (0, 0)).2 - mv)) k := by
  obtain ⟨h1, h2, ⟨h, -⟩ | ⟨h, rfl, h3⟩⟩ := H
  · omega
  · have e1 := ho _ (getD_mem (z := (0, 0)) (show k - 1 < f.length by omega))
    have e2 := ho _ (getD_mem (z := (0, 0)) hk)
    exact moved_mid h hk ho (by omega) (by omega) (by omega) (by omega)
theorem MovA.first (H : MovA f F k mv) (h0 : k = 0) (hk : k < f.length) (ho : ∀ s ∈ f, 1 ≤ s.1 ∧ s.1 ≤ s.2 ∧ s.2 ≤ 1000) (hs : 1 ≤ (f.getD k (0, 0)).1 + mv) : MovedF f (F.set k ((f.getD k (0, 0)).1 + mv, (f.getD k (0, 0)).2 + mv)) k := by
  obtain ⟨h1, h2, ⟨h, rfl⟩ | ⟨h, -⟩⟩ := H
  · subst h
    have e2 := ho _ (getD_mem (z := (0, 0)) hk)
    exact moved_first hk ho (by omega)
  · omega
end
end Go.Proofs.Ytobmhamdkngehaa
