/-
  Parts of the proof, in the order in which they build: EvC.
-/
import Derived.Test.YtiacgaplhndlnaaRows
import Derived.Shelf.Abstract
import Derived.WalkSpells
import Derived.WalkLawsBesides
import Derived.Laws.EntriesVeiled
import Derived.Lib.Hide
import Derived.IntWalk
import Derived.BigQuiet
import Derived.ArgAppend
import Derived.Deep.AppendLies
import Derived.Test.YtiacgaplhndlnaaN3
import Derived.Test.YtiacgaplhndlnaaN1
import Derived.Test.YtiacgaplhndlnaaN11
set_option linter.unusedVariables false
set_option linter.unusedSimpArgs false
namespace Go.Proofs.Ytiacgaplhndlnaa
open Go.RowKit Go.Shelf
open Lim

theorem info_parts {P : Program} {t : TypeId} {z : Value} {n k : Nat} (h : (P.info? t).map (fun i => (i.zero, i.size, i.bytes)) = some (some z, n, k)) : ∃ i, P.info? t = some i ∧ i.zero = some z ∧ i.size = n ∧ i.bytes = k := by
  cases hi : P.info? t with
  | none => rw [hi] at h; cases h
  | some i =>
    rw [hi] at h
    simp at h
    exact ⟨i, rfl, h.1, h.2.1, h.2.2⟩
namespace Lim
/-- the slice v, of one-cell elements of type e, owns the cells xs, wherever in its block they lie -/
def ownsQ (w : World) (base e : Nat) (v : Value) (xs : List Value) : Prop :=
  (v = .slice none 0 0 ∧ xs = []) ∨ ∃ g off cap cur, v = .slice (some ⟨g, off, none⟩) xs.length cap ∧ base ≤ g ∧ w.heap[g]? = some (.cells cur e (0, 0)) ∧ xs.length ≤ cap ∧ off + cap ≤ cur.size ∧
    ∀ j u, xs[j]? = some u → cur[off + j]? = some u
theorem ownsQ.of_owns {w : World} {base e : Nat} {v : Value} {n : Nat} {xs : List Value} (h : w.ownsRow base e 1 v n xs) : ownsQ w base e v xs := by
  obtain ⟨hl, h2⟩ := h
  have hn : n = xs.length := by omega
  rcases h2 with ⟨rfl, h0⟩ | ⟨g, cap, cur, rfl, hb, hg, hc, hm, hs, ht⟩
  · exact .inl ⟨rfl, List.eq_nil_of_length_eq_zero (by omega)⟩
  · refine .inr ⟨g, 0, cap, cur, by rw [hn], hb, hg, by omega, by omega, fun j u hj => ?_⟩
    rw [← ht, List.getElem?_take] at hj
    split at hj
    · simpa using hj
    · cases hj
theorem ownsQ.below {w w' : World} {base e : Nat} {v : Value} {xs : List Value} (h : ownsQ w base e v xs) (hb : Below w.heap.size w w') : ownsQ w' base e v xs := by
  rcases h with h | ⟨g, off, cap, cur, h1, h2, h3, h4⟩
  · exact .inl h
  · exact .inr ⟨g, off, cap, cur, h1, h2, (hb.block g (Array.getElem?_eq_some_iff.1 h3).1).trans h3, h4⟩
theorem ownsQ.steady {w w' : World} {B base e : Nat} {v : Value} {xs : List Value} (h : ownsQ w base e v xs) (hb : Steady B w w') : ownsQ w' base e v xs := by
  rcases h with h | ⟨g, off, cap, cur, h1, h2, h3, h4⟩
  · exact .inl h
  · exact .inr ⟨g, off, cap, cur, h1, h2, hb.block h3, h4⟩
theorem ownsQ.kept {w w' : World} {base e : Nat} {v : Value} {row : Option Nat} {xs : List Value} (h : ownsQ w base e v xs) (hg : w.grownBy w' row) (hne : ∀ r, row = some r → r < base) : ownsQ w' base e v xs := by
  rcases h with h | ⟨g, off, cap, cur, h1, h2, h3, h4⟩
  · exact .inl h
  · exact .inr ⟨g, off, cap, cur, h1, h2, (hg.block g (Array.getElem?_eq_some_iff.1 h3).1 (fun e => by have := hne _ e.symm; omega)).trans h3, h4⟩
theorem ownsQ.lt {w : World} {base e : Nat} {v : Value} {xs : List Value} (h : ownsQ w base e v xs) : ∀ k, v.ownBlock = some k → base ≤ k ∧ k < w.heap.size := by
  intro k hk
  rcases h with ⟨rfl, _⟩ | ⟨g, off, cap, cur, rfl, hb, hg, _⟩
  · simp [Value.ownBlock] at hk
  · simp [Value.ownBlock] at hk
    subst hk
    exact ⟨hb, (Array.getElem?_eq_some_iff.1 hg).1⟩

theorem ownsQ.form {w : World} {base e : Nat} {v : Value} {xs : List Value} (h : ownsQ w base e v xs) {k : Nat} (hk : xs.length = k + 1) : ∃ g off cap, v = .slice (some ⟨g, off, none⟩) (k + 1) cap := by
  rcases h with ⟨_, rfl⟩ | ⟨g, off, cap, cur, hv, _⟩
  · simp at hk
  · exact ⟨g, off, cap, by rw [← hk]; exact hv⟩
theorem heap_setCell_self {w : World} {g o : Nat} {cur : Array Value} {e : Nat} {fr : Nat × Nat} (u : Value) (h : w.heap[g]? = some (.cells cur e fr)) : (w.setCell ⟨g, o, none⟩ u).heap[g]? = some (.cells (cur.setIfInBounds o u) e fr) := by
  obtain ⟨hlt, hk⟩ := Array.getElem?_eq_some_iff.1 h
  simp only [World.setCell]
  rw [Array.getElem?_eq_getElem (by rw [Array.size_modify]; exact hlt), Array.getElem_modify_self, hk]
  rfl
theorem grownBy_setCell (w : World) (a : Addr) (u : Value) : w.grownBy (w.setCell a u) (some a.block) :=
  ⟨rfl, rfl, rfl, by simp [World.setCell], fun k _ hk => Below.heap_setCell _ _ _ _ (fun e => hk (by rw [e]))⟩

/-- 'append(q, x)' of one element of one cell -/
theorem wpList_append_q {P : Program} (w : World) {ops : Array Oper} {rest : List Oper} {o : Oper} {a : Act} {Q : Exit → Act → World → Prop}
    (hg : o.guard = none) (s x : Operand) (t : TypeId) (hop : o.op = Op.call { callee := Callee.builtin Builtin.append, args := #[s, x], argTypes := #[t, t] })
    (e : TypeId) (i : TypeInfo) (z : Value) (bytes : Nat) (h1 : P.underlying t = some (.slice e)) (h2 : P.info? e = some i) (h3 : i.zero = some z) (h4 : i.size = 1) (h5 : i.bytes = bytes) (h6 : z.cells.size = 1)
    (base : Nat) (v : Value) (xs : List Value) (hs : a.eval s = v) (hown : ownsQ w base e v xs)
    (ad : Addr) (c : Nat) (u : Value) (hx : a.eval x = .slice (some ad) 1 c) (hc : w.cell? ad = some u) (h1c : u.oneCell' = true)
    (b1 : xs.length + 1 ≤ maxLen) (b2 : (xs.length + 1) * bytes ≤ 140737488355328) (hbase : base ≤ w.heap.size)
    (h : ∀ v' w', ownsQ w' base e v' (xs ++ [u]) → w.grownBy w' v.ownBlock → (∀ k, v'.ownBlock = some k → v.ownBlock = some k ∨ w.heap.size ≤ k) → wpList P ops Q rest (a.put o.dst v') w') :
    wpList P ops Q (o :: rest) a w := by
  have hnews : ∀ j v, ([u] : List Value)[j]? = some v → w.cell? (ad.add j) = some v := by
    intro j v hj
    match j with
    | 0 => simp at hj; subst hj; simpa [Addr.add] using hc
    | j + 1 => simp at hj
  rcases hown with ⟨rfl, rfl⟩ | ⟨g, off, cap, cur, rfl, hb, hgg, hlc, hcs, hcell⟩
  · refine wpList_append_own w hg s x t hop w.heap.size e i z 1 bytes h1 h2 h3 h4 h5 h6 (by omega) _ 0 [] hs (World.ownsRow_nil _ _ _ _) ad 1 c [u] hx rfl hnews (by simpa using h1c) (by simpa using b1) (by simpa using b2) (Nat.le_refl _) ?_
    intro v' w' hown hgr _
    exact h v' w' (ownsQ.of_owns (n := 0 + 1) (owns_mono hown hbase)) hgr (fun k hk => .inr ((ownsQ.of_owns (n := 0 + 1) hown).lt k hk).1)
  · refine wpList_append_arg w hg s x t hop e i z 1 bytes h1 h2 h3 h4 h5 h6 (by omega) g off xs.length cap xs hs (by simp) ?_ ad 1 c [u] hx rfl hnews (by simpa using h1c) ?_ b1 b2 ?_ ?_
    · intro j v hj
      have := hcell j v hj
      simp [World.cell?, hgg, this]
    · intro hroom j hj
      obtain rfl : j = 0 := by simpa using hj
      have hlt : off + xs.length < cur.size := by omega
      simp [World.cell?, World.frozen?, hgg, hlt]
    · intro hroom
      have hset : w.setCells g (off + xs.length * 1) [u] = w.setCell ⟨g, off + xs.length, none⟩ u := by simp [World.setCells]
      rw [hset]
      refine h _ _ (.inr ⟨g, off, cap, cur.setIfInBounds (off + xs.length) u, by simp, hb, heap_setCell_self u hgg, by simpa using hroom, by simpa using hcs, ?_⟩) (grownBy_setCell _ _ _) (fun k hk => .inl hk)
      intro j y hj
      rw [Array.getElem?_setIfInBounds]
      by_cases hjn : j < xs.length
      · rw [List.getElem?_append_left hjn] at hj
        rw [if_neg (by omega)]
        exact hcell j y hj
      · rw [List.getElem?_append_right (by omega)] at hj
        have hj0 : j - xs.length = 0 := by
          rcases Nat.eq_zero_or_pos (j - xs.length) with h | h
          · exact h
          · rw [List.getElem?_eq_none (by simp; omega)] at hj; cases hj
        have : j = xs.length := by omega
        subst this
        simp at hj
        rw [if_pos rfl, if_pos (by omega), hj]
    · intro hgrow v' w' hown hgr
      exact h v' w' (ownsQ.of_owns (n := xs.length + 1) (owns_mono hown hbase)) ⟨hgr.os, hgr.tape, hgr.output, hgr.size, fun k hk _ => hgr.block k hk (by simp)⟩ (fun k hk => .inr ((ownsQ.of_owns (n := xs.length + 1) hown).lt k hk).1)
end Lim

set_option maxHeartbeats 400000 in
theorem put_any {w : World} {bq base : Nat} {v : Value} {xs : List Value} {x : Int} (hq : w.cell? ⟨bq, 0, none⟩ = some v) (hf : w.frozen? ⟨bq, 0, none⟩ = false) (hown : ownsQ w base 3 v xs) (hb : bq < base) (hbase : base ≤ w.heap.size) (hl : xs.length ≤ 4000000) :
    Calls Try.prog 81 #[.pointer (some ⟨bq, 0, none⟩), .int .i64 x] w fun e w' => e = .returned (.tuple #[]) ∧
      ∃ v' w1, ownsQ w' base 3 v' (xs ++ [.int .i64 x]) ∧ w.grownBy w1 v.ownBlock ∧ w' = w1.setCell ⟨bq, 0, none⟩ v' ∧ w'.cell? ⟨bq, 0, none⟩ = some v' ∧ w'.frozen? ⟨bq, 0, none⟩ = false ∧ ∀ k, v'.ownBlock = some k → v.ownBlock = some k ∨ w.heap.size ≤ k := by
  obtain ⟨i0, hi, hz0, hz1, hz2⟩ := info_parts Try.infoInt
  have HI := Lib.hid (And.intro hi (And.intro hz0 (And.intro hz1 hz2)))
  clear hi hz0 hz1 hz2
  have hbw : bq < w.heap.size := World.block_lt_of_cell? _ _ hq
  go_enter Try.func81, Try.ntmps81
  go_wp2_with (at_builtin; refine wpList_append_q _ rfl _ _ 23 rfl 3 i0 (.int .i64 0) 8 Try.underlying23 HI.out.1 HI.out.2.1 HI.out.2.2.1 HI.out.2.2.2 rfl base v xs rfl (hown.below ((Below.refl _ _).alloc (Nat.le_refl _) _)) ⟨w.heap.size, 0, none⟩ 1 (.int .i64 x) rfl (by simp [go_sem]) rfl (by unfold maxLen; omega) (by omega) (by simp; omega) ?_; intro v' w1 hown1 hgrow hnew; have HNEW := Lib.hid hnew; clear hnew; obtain ⟨g', off', cap', hv'⟩ := hown1.form (k := xs.length) (by simp); subst hv'; have hq1 : w1.cell? ⟨bq, 0, none⟩ = some v := hgrow.cell (cell_al _ hq) (fun e => by have := hown.lt _ e.symm; simp at this; omega); have hf1 : w1.frozen? ⟨bq, 0, none⟩ = false := (hgrow.frozen_far ⟨bq, 0, none⟩ (by simp; omega) (fun e => by have := hown.lt _ e.symm; simp at this; omega)).trans (frozen_on ((Below.refl _ _).alloc (Nat.le_refl _) _) hq hf))
  refine bodyPost_end (results_none rfl _ _ _) rfl ⟨rfl, _, w1, ?_, ?_, rfl, World.cell?_setCell_same' _ _ _ (by rw [hq1]; rfl), by rw [World.frozen?_setCell]; exact hf1, fun k hk => (HNEW.out k hk).imp id (fun h => by simp at h; omega)⟩
  · exact hown1.kept (grownBy_setCell w1 ⟨bq, 0, none⟩ _) (fun r e => by cases e; exact hb)
  · exact (World.grownBy_alloc w _ _).trans hgrow


set_option maxHeartbeats 400000 in
theorem take_any {w : World} {bq base : Nat} {v : Value} {xs : List Value} {x : Int} (hq : w.cell? ⟨bq, 0, none⟩ = some v) (hf : w.frozen? ⟨bq, 0, none⟩ = false) (hown : ownsQ w base 3 v (xs ++ [.int .i64 x])) (hb : bq < base) (hl : xs.length ≤ 4000000) :
    Calls Try.prog 83 #[.pointer (some ⟨bq, 0, none⟩)] w fun e w' => e = .returned (.int .i64 x) ∧
      ∃ v', ownsQ w' base 3 v' xs ∧ w' = w.setCell ⟨bq, 0, none⟩ v' ∧ w'.cell? ⟨bq, 0, none⟩ = some v' ∧ w'.frozen? ⟨bq, 0, none⟩ = false ∧ v'.ownBlock = v.ownBlock := by
  rcases hown with ⟨_, h0⟩ | ⟨g, off, cap, cur, rfl, hbg, hgg, hlc, hcs, hcell⟩
  · simp at h0
  · have hx := hcell xs.length (.int .i64 x) (by simp)
    have hx0 : w.cell? ⟨g, off + xs.length, none⟩ = some (.int .i64 x) := by simpa [World.cell?, hgg] using hx
    have hl1 : (xs ++ [Value.int .i64 x]).length = xs.length + 1 := by simp
    rw [hl1] at hq hlc
    have hw1 : IntKind.i64.wrap ((xs.length : Int) + 1 - 1) = (xs.length : Int) := by rw [IntWalk.i64_in _ (by omega)]; omega
    have hw2 : ((xs.length + 1 : Nat) : Int) - 1 = (xs.length : Int) := by omega
    have HC := Lib.hid hcell
    clear hx hcell hl1
    rw [show (xs ++ [Value.int .i64 x]).length = xs.length + 1 by simp]
    go_enter Try.func83, Try.ntmps83
    go_wp2
    go_ret
    refine ⟨rfl, _, .inr ⟨g, off, cap, cur, rfl, hbg, ?_, by omega, by omega, fun j u hj => ?_⟩, rfl, World.cell?_setCell_same' _ _ _ (by rw [hq]; rfl), by rw [World.frozen?_setCell]; exact hf, ?_⟩
    · exact (Below.heap_setCell w ⟨bq, 0, none⟩ _ g (by show g ≠ bq; omega)).trans hgg
    · exact HC.out j u (by rw [List.getElem?_append_left (List.getElem?_eq_some_iff.1 hj).1]; exact hj)
    · simp [Value.ownBlock]
end Go.Proofs.Ytiacgaplhndlnaa
