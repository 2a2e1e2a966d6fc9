/-
  Parts of the proof, in the order in which they build: Mk, EvC, EvM, EvD.
-/
import Derived.Test.YtiacgaplhndlnaaRows
import Derived.OwnWalkIn
import Derived.OwnWalk
import Derived.Maps.AppendAt
import Derived.Laws.AppendOwn
import Derived.Shelf.Abstract
import Derived.WalkKit
import Derived.WalkSpells
import Derived.WalkLawsBesides
import Derived.Laws.EntriesVeiled
import Derived.Lib.Hide
import Derived.IntWalk
import Derived.BigQuiet
import Derived.ArgAppend
import Derived.Deep.AppendLies
import Derived.Test.YtiacgaplhndlnaaF2
import Derived.Test.YtiacgaplhndlnaaF3
import Derived.Test.YtiacgaplhndlnaaF1
import Derived.Test.YtiacgaplhndlnaaF6
import Derived.Test.YtiacgaplhndlnaaF7
set_option linter.unusedVariables false
set_option linter.unusedSimpArgs false
/-
  The marks that loops over an iterator leave on an activation, while other memory is written.
-/
namespace Go.Proofs.Ytiacgaplhndlnaa
open Go.RowKit Go.Shelf
open Lim

theorem keeps_of_below {w w' : World} (h : Below w.heap.size w w') : KeepsOthers w w' :=
  ⟨h.size, fun k _ hk _ => (h.block k (Array.getElem?_eq_some_iff.1 hk).1).trans hk⟩
/-- marks that all lie below B -/
def MarksLt (S B : Nat) (ds : List Deferred) (w : World) : Prop := ∃ Ds : List Nat, ds = Ds.map markOf ∧ Ds.Nodup ∧ ∀ D ∈ Ds, S ≤ D ∧ D < B ∧ w.heap[D]? = some (.deferred (some []))
theorem MarksLt.of_marks {S : Nat} {ds : List Deferred} {w : World} (h : Marks S ds w) : MarksLt S w.heap.size ds w := by
  obtain ⟨Ds, h1, h2, h3⟩ := h
  exact ⟨Ds, h1, h2, fun D hD => ⟨(h3 D hD).1, (Array.getElem?_eq_some_iff.1 (h3 D hD).2).1, (h3 D hD).2⟩⟩
theorem MarksLt.marks {S B : Nat} {ds : List Deferred} {w : World} (h : MarksLt S B ds w) : Marks S ds w := by
  obtain ⟨Ds, h1, h2, h3⟩ := h
  exact ⟨Ds, h1, h2, fun D hD => ⟨(h3 D hD).1, (h3 D hD).2.2⟩⟩
theorem MarksLt.steady {S B : Nat} {ds : List Deferred} {w w' : World} (h : MarksLt S B ds w) (hs : Steady B w w') : MarksLt S B ds w' := by
  obtain ⟨Ds, h1, h2, h3⟩ := h
  exact ⟨Ds, h1, h2, fun D hD => ⟨(h3 D hD).1, (h3 D hD).2.1, hs.same D _ (h3 D hD).2.2 (.inl (h3 D hD).2.1)⟩⟩
theorem MarksLt.keeps {S B : Nat} {ds : List Deferred} {w w' : World} (h : MarksLt S B ds w) (hs : KeepsOthers w w') : MarksLt S B ds w' := by
  obtain ⟨Ds, h1, h2, h3⟩ := h
  exact ⟨Ds, h1, h2, fun D hD => ⟨(h3 D hD).1, (h3 D hD).2.1, hs.same D _ (h3 D hD).2.2 rfl⟩⟩
theorem Lim.Marks.keep {S : Nat} {ds : List Deferred} {w w' : World} (h : Marks S ds w) (hs : KeepsOthers w w') : Marks S ds w' := by
  obtain ⟨Ds, h1, h2, h3⟩ := h
  exact ⟨Ds, h1, h2, fun D hD => ⟨(h3 D hD).1, hs.same D _ (h3 D hD).2 rfl⟩⟩
theorem MarksLt.cons {S B : Nat} {ds : List Deferred} {w : World} (h : MarksLt S B ds w) (hB : S ≤ B) {D : Nat} (hD : B ≤ D) (hk : w.heap[D]? = some (.deferred (some []))) : Marks S (markOf D :: ds) w := by
  obtain ⟨Ds, h1, h2, h3⟩ := h
  refine ⟨D :: Ds, by simp [h1], List.nodup_cons.2 ⟨fun hm => by have := (h3 D hm).2.1; omega, h2⟩, fun E hE => ?_⟩
  rcases List.mem_cons.1 hE with rfl | hE
  · exact ⟨by omega, hk⟩
  · exact ⟨(h3 E hE).1, (h3 E hE).2.2⟩

theorem MarksLt.grown {S B' : Nat} {ds : List Deferred} {w w' : World} {row : Option Nat} (h : MarksLt S B' ds w) (hg : w.grownBy w' row) (hr : ∀ r, row = some r → r < S) : MarksLt S B' ds w' := by
  obtain ⟨Ds, h1, h2, h3⟩ := h
  refine ⟨Ds, h1, h2, fun D hD => ⟨(h3 D hD).1, (h3 D hD).2.1, (hg.block D (Array.getElem?_eq_some_iff.1 (h3 D hD).2.2).1 (fun e => ?_)).trans (h3 D hD).2.2⟩⟩
  have := hr D e.symm
  have := (h3 D hD).1
  omega
/-- the queue's block lies apart from the blocks from lo on, below hi -/
def ApartR (q lo hi : Nat) (W : World) : Prop := ∀ v g, W.cell? ⟨q, 0, none⟩ = some v → v.ownBlock = some g → g < lo ∨ hi ≤ g
theorem ApartR.of_cell {q lo hi : Nat} {W W' : World} {v : Value} (h : ApartR q lo hi W) (hv : W.cell? ⟨q, 0, none⟩ = some v) (hv' : W'.cell? ⟨q, 0, none⟩ = some v) : ApartR q lo hi W' := fun u g hu hg => h u g (hv.trans (hv'.symm.trans hu)) hg
theorem keeps_of_row {w w1 : World} {base e size : Nat} {v : Value} {n : Nat} {xs : List Value} (h : w.ownsRow base e size v n xs) (hg : w.grownBy w1 v.ownBlock) : KeepsOthers w w1 := by
  refine .of_grownBy hg (fun j o hj ho => ?_)
  rcases h.2 with ⟨rfl, _⟩ | ⟨g, cap, cur, rfl, hb, hgg, _⟩
  · simp [Value.ownBlock] at hj
  · simp [Value.ownBlock] at hj
    subst hj
    rw [hgg] at ho; cases ho; rfl
theorem results_one {P : Program} {fn : Func} {p : Tmp} (h : fn.results = #[.tmp p]) (tmps : Array Value) (w : World) {v : Value} (hv : tmps.getD p undef = v) : (results fn tmps).run P w = .ok v w := by
  subst hv
  simp [results, h]
theorem Try.infoInt : (Try.prog.info? 3).map (fun i => (i.zero, i.size, i.bytes)) = some (some (.int .i64 0), 1, 8) := by kernel_rfl
def noPanic (Q : Exit → Act → World → Prop) : Exit → Act → World → Prop
  | .panic _, _, _ => False
  | e, a, w => Q e a w
theorem wp_noPanic {P : Program} {c : Code} {Q : Exit → Act → World → Prop} {a : Act} {w : World} (h : c.wp P (noPanic Q) a w) : c.wp P Q a w := by
  refine wp_mono h ?_
  intro e a w h
  cases e <;> first | exact h | exact h.elim
end Go.Proofs.Ytiacgaplhndlnaa
/-
  The stack of package enclave: a slice in a box, put on top, taken from the top.
-/
namespace Go.Proofs.Ytiacgaplhndlnaa
open Go.RowKit Go.Shelf
open Lim

theorem info_parts {P : Program} {t : TypeId} {z : Value} {n k : Nat} (h : (P.info? t).map (fun i => (i.zero, i.size, i.bytes)) = some (some z, n, k)) : ∃ i, P.info? t = some i ∧ i.zero = some z ∧ i.size = n ∧ i.bytes = k := by
  cases hi : P.info? t with
  | none => rw [hi] at h; cases h
  | some i =>
    rw [hi] at h
    simp at h
    exact ⟨i, rfl, h.1, h.2.1, h.2.2⟩
namespace Lim
/-- the slice v, of one-cell elements of type e, owns the cells xs, wherever in its block they lie -/
def ownsQ (w : World) (base e : Nat) (v : Value) (xs : List Value) : Prop :=
  (v = .slice none 0 0 ∧ xs = []) ∨ ∃ g off cap cur, v = .slice (some ⟨g, off, none⟩) xs.length cap ∧ base ≤ g ∧ w.heap[g]? = some (.cells cur e (0, 0)) ∧ xs.length ≤ cap ∧ off + cap ≤ cur.size ∧
    ∀ j u, xs[j]? = some u → cur[off + j]? = some u
theorem ownsQ.of_owns {w : World} {base e : Nat} {v : Value} {n : Nat} {xs : List Value} (h : w.ownsRow base e 1 v n xs) : ownsQ w base e v xs := by
  obtain ⟨hl, h2⟩ := h
  have hn : n = xs.length := by omega
  rcases h2 with ⟨rfl, h0⟩ | ⟨g, cap, cur, rfl, hb, hg, hc, hm, hs, ht⟩
  · exact .inl ⟨rfl, List.eq_nil_of_length_eq_zero (by omega)⟩
  · refine .inr ⟨g, 0, cap, cur, by rw [hn], hb, hg, by omega, by omega, fun j u hj => ?_⟩
    rw [← ht, List.getElem?_take] at hj
    split at hj
    · simpa using hj
    · cases hj
theorem ownsQ.below {w w' : World} {base e : Nat} {v : Value} {xs : List Value} (h : ownsQ w base e v xs) (hb : Below w.heap.size w w') : ownsQ w' base e v xs := by
  rcases h with h | ⟨g, off, cap, cur, h1, h2, h3, h4⟩
  · exact .inl h
  · exact .inr ⟨g, off, cap, cur, h1, h2, (hb.block g (Array.getElem?_eq_some_iff.1 h3).1).trans h3, h4⟩
theorem ownsQ.steady {w w' : World} {B base e : Nat} {v : Value} {xs : List Value} (h : ownsQ w base e v xs) (hb : Steady B w w') : ownsQ w' base e v xs := by
  rcases h with h | ⟨g, off, cap, cur, h1, h2, h3, h4⟩
  · exact .inl h
  · exact .inr ⟨g, off, cap, cur, h1, h2, hb.block h3, h4⟩
theorem ownsQ.kept {w w' : World} {base e : Nat} {v : Value} {row : Option Nat} {xs : List Value} (h : ownsQ w base e v xs) (hg : w.grownBy w' row) (hne : ∀ r, row = some r → r < base) : ownsQ w' base e v xs := by
  rcases h with h | ⟨g, off, cap, cur, h1, h2, h3, h4⟩
  · exact .inl h
  · exact .inr ⟨g, off, cap, cur, h1, h2, (hg.block g (Array.getElem?_eq_some_iff.1 h3).1 (fun e => by have := hne _ e.symm; omega)).trans h3, h4⟩
theorem ownsQ.lt {w : World} {base e : Nat} {v : Value} {xs : List Value} (h : ownsQ w base e v xs) : ∀ k, v.ownBlock = some k → base ≤ k ∧ k < w.heap.size := by
  intro k hk
  rcases h with ⟨rfl, _⟩ | ⟨g, off, cap, cur, rfl, hb, hg, _⟩
  · simp [Value.ownBlock] at hk
  · simp [Value.ownBlock] at hk
    subst hk
    exact ⟨hb, (Array.getElem?_eq_some_iff.1 hg).1⟩

theorem ownsQ.form {w : World} {base e : Nat} {v : Value} {xs : List Value} (h : ownsQ w base e v xs) {k : Nat} (hk : xs.length = k + 1) : ∃ g off cap, v = .slice (some ⟨g, off, none⟩) (k + 1) cap := by
  rcases h with ⟨_, rfl⟩ | ⟨g, off, cap, cur, hv, _⟩
  · simp at hk
  · exact ⟨g, off, cap, by rw [← hk]; exact hv⟩
theorem heap_setCell_self {w : World} {g o : Nat} {cur : Array Value} {e : Nat} {fr : Nat × Nat} (u : Value) (h : w.heap[g]? = some (.cells cur e fr)) : (w.setCell ⟨g, o, none⟩ u).heap[g]? = some (.cells (cur.setIfInBounds o u) e fr) := by
  obtain ⟨hlt, hk⟩ := Array.getElem?_eq_some_iff.1 h
  simp only [World.setCell]
  rw [Array.getElem?_eq_getElem (by rw [Array.size_modify]; exact hlt), Array.getElem_modify_self, hk]
  rfl
theorem grownBy_setCell (w : World) (a : Addr) (u : Value) : w.grownBy (w.setCell a u) (some a.block) :=
  ⟨rfl, rfl, rfl, by simp [World.setCell], fun k _ hk => Below.heap_setCell _ _ _ _ (fun e => hk (by rw [e]))⟩

/-- 'append(q, x)' of one element of one cell -/
theorem wpList_append_q {P : Program} (w : World) {ops : Array Oper} {rest : List Oper} {o : Oper} {a : Act} {Q : Exit → Act → World → Prop}
    (hg : o.guard = none) (s x : Operand) (t : TypeId) (hop : o.op = Op.call { callee := Callee.builtin Builtin.append, args := #[s, x], argTypes := #[t, t] })
    (e : TypeId) (i : TypeInfo) (z : Value) (bytes : Nat) (h1 : P.underlying t = some (.slice e)) (h2 : P.info? e = some i) (h3 : i.zero = some z) (h4 : i.size = 1) (h5 : i.bytes = bytes) (h6 : z.cells.size = 1)
    (base : Nat) (v : Value) (xs : List Value) (hs : a.eval s = v) (hown : ownsQ w base e v xs)
    (ad : Addr) (c : Nat) (u : Value) (hx : a.eval x = .slice (some ad) 1 c) (hc : w.cell? ad = some u) (h1c : u.oneCell' = true)
    (b1 : xs.length + 1 ≤ maxLen) (b2 : (xs.length + 1) * bytes ≤ 140737488355328) (hbase : base ≤ w.heap.size)
    (h : ∀ v' w', ownsQ w' base e v' (xs ++ [u]) → w.grownBy w' v.ownBlock → (∀ k, v'.ownBlock = some k → v.ownBlock = some k ∨ w.heap.size ≤ k) → wpList P ops Q rest (a.put o.dst v') w') :
    wpList P ops Q (o :: rest) a w := by
  have hnews : ∀ j v, ([u] : List Value)[j]? = some v → w.cell? (ad.add j) = some v := by
    intro j v hj
    match j with
    | 0 => simp at hj; subst hj; simpa [Addr.add] using hc
    | j + 1 => simp at hj
  rcases hown with ⟨rfl, rfl⟩ | ⟨g, off, cap, cur, rfl, hb, hgg, hlc, hcs, hcell⟩
  · refine wpList_append_own w hg s x t hop w.heap.size e i z 1 bytes h1 h2 h3 h4 h5 h6 (by omega) _ 0 [] hs (World.ownsRow_nil _ _ _ _) ad 1 c [u] hx rfl hnews (by simpa using h1c) (by simpa using b1) (by simpa using b2) (Nat.le_refl _) ?_
    intro v' w' hown hgr _
    exact h v' w' (ownsQ.of_owns (n := 0 + 1) (owns_mono hown hbase)) hgr (fun k hk => .inr ((ownsQ.of_owns (n := 0 + 1) hown).lt k hk).1)
  · refine wpList_append_arg w hg s x t hop e i z 1 bytes h1 h2 h3 h4 h5 h6 (by omega) g off xs.length cap xs hs (by simp) ?_ ad 1 c [u] hx rfl hnews (by simpa using h1c) ?_ b1 b2 ?_ ?_
    · intro j v hj
      have := hcell j v hj
      simp [World.cell?, hgg, this]
    · intro hroom j hj
      obtain rfl : j = 0 := by simpa using hj
      have hlt : off + xs.length < cur.size := by omega
      simp [World.cell?, World.frozen?, hgg, hlt]
    · intro hroom
      have hset : w.setCells g (off + xs.length * 1) [u] = w.setCell ⟨g, off + xs.length, none⟩ u := by simp [World.setCells]
      rw [hset]
      refine h _ _ (.inr ⟨g, off, cap, cur.setIfInBounds (off + xs.length) u, by simp, hb, heap_setCell_self u hgg, by simpa using hroom, by simpa using hcs, ?_⟩) (grownBy_setCell _ _ _) (fun k hk => .inl hk)
      intro j y hj
      rw [Array.getElem?_setIfInBounds]
      by_cases hjn : j < xs.length
      · rw [List.getElem?_append_left hjn] at hj
        rw [if_neg (by omega)]
        exact hcell j y hj
      · rw [List.getElem?_append_right (by omega)] at hj
        have hj0 : j - xs.length = 0 := by
          rcases Nat.eq_zero_or_pos (j - xs.length) with h | h
          · exact h
          · rw [List.getElem?_eq_none (by simp; omega)] at hj; cases hj
        have : j = xs.length := by omega
        subst this
        simp at hj
        rw [if_pos rfl, if_pos (by omega), hj]
    · intro hgrow v' w' hown hgr
      exact h v' w' (ownsQ.of_owns (n := xs.length + 1) (owns_mono hown hbase)) ⟨hgr.os, hgr.tape, hgr.output, hgr.size, fun k hk _ => hgr.block k hk (by simp)⟩ (fun k hk => .inr ((ownsQ.of_owns (n := xs.length + 1) hown).lt k hk).1)
end Lim

set_option maxHeartbeats 400000 in
theorem put_any {w : World} {bq base : Nat} {v : Value} {xs : List Value} {x : Int} (hq : w.cell? ⟨bq, 0, none⟩ = some v) (hf : w.frozen? ⟨bq, 0, none⟩ = false) (hown : ownsQ w base 3 v xs) (hb : bq < base) (hbase : base ≤ w.heap.size) (hl : xs.length ≤ 4000000) :
    Calls Try.prog 81 #[.pointer (some ⟨bq, 0, none⟩), .int .i64 x] w fun e w' => e = .returned (.tuple #[]) ∧
      ∃ v' w1, ownsQ w' base 3 v' (xs ++ [.int .i64 x]) ∧ w.grownBy w1 v.ownBlock ∧ w' = w1.setCell ⟨bq, 0, none⟩ v' ∧ w'.cell? ⟨bq, 0, none⟩ = some v' ∧ w'.frozen? ⟨bq, 0, none⟩ = false ∧ ∀ k, v'.ownBlock = some k → v.ownBlock = some k ∨ w.heap.size ≤ k := by
  obtain ⟨i0, hi, hz0, hz1, hz2⟩ := info_parts Try.infoInt
  have HI := Lib.hid (And.intro hi (And.intro hz0 (And.intro hz1 hz2)))
  clear hi hz0 hz1 hz2
  have hbw : bq < w.heap.size := World.block_lt_of_cell? _ _ hq
  go_enter Try.func81, Try.ntmps81
  go_wp2_with (at_builtin; refine wpList_append_q _ rfl _ _ 23 rfl 3 i0 (.int .i64 0) 8 Try.underlying23 HI.out.1 HI.out.2.1 HI.out.2.2.1 HI.out.2.2.2 rfl base v xs rfl (hown.below ((Below.refl _ _).alloc (Nat.le_refl _) _)) ⟨w.heap.size, 0, none⟩ 1 (.int .i64 x) rfl (by simp [go_sem]) rfl (by unfold maxLen; omega) (by omega) (by simp; omega) ?_; intro v' w1 hown1 hgrow hnew; have HNEW := Lib.hid hnew; clear hnew; obtain ⟨g', off', cap', hv'⟩ := hown1.form (k := xs.length) (by simp); subst hv'; have hq1 : w1.cell? ⟨bq, 0, none⟩ = some v := hgrow.cell (cell_al _ hq) (fun e => by have := hown.lt _ e.symm; simp at this; omega); have hf1 : w1.frozen? ⟨bq, 0, none⟩ = false := (hgrow.frozen_far ⟨bq, 0, none⟩ (by simp; omega) (fun e => by have := hown.lt _ e.symm; simp at this; omega)).trans (frozen_on ((Below.refl _ _).alloc (Nat.le_refl _) _) hq hf))
  refine bodyPost_end (results_none rfl _ _ _) rfl ⟨rfl, _, w1, ?_, ?_, rfl, World.cell?_setCell_same' _ _ _ (by rw [hq1]; rfl), by rw [World.frozen?_setCell]; exact hf1, fun k hk => (HNEW.out k hk).imp id (fun h => by simp at h; omega)⟩
  · exact hown1.kept (grownBy_setCell w1 ⟨bq, 0, none⟩ _) (fun r e => by cases e; exact hb)
  · exact (World.grownBy_alloc w _ _).trans hgrow


set_option maxHeartbeats 400000 in
theorem take_any {w : World} {bq base : Nat} {v : Value} {xs : List Value} {x : Int} (hq : w.cell? ⟨bq, 0, none⟩ = some v) (hf : w.frozen? ⟨bq, 0, none⟩ = false) (hown : ownsQ w base 3 v (xs ++ [.int .i64 x])) (hb : bq < base) (hl : xs.length ≤ 4000000) :
    Calls Try.prog 83 #[.pointer (some ⟨bq, 0, none⟩)] w fun e w' => e = .returned (.int .i64 x) ∧
      ∃ v', ownsQ w' base 3 v' xs ∧ w' = w.setCell ⟨bq, 0, none⟩ v' ∧ w'.cell? ⟨bq, 0, none⟩ = some v' ∧ w'.frozen? ⟨bq, 0, none⟩ = false ∧ v'.ownBlock = v.ownBlock := by
  rcases hown with ⟨_, h0⟩ | ⟨g, off, cap, cur, rfl, hbg, hgg, hlc, hcs, hcell⟩
  · simp at h0
  · have hx := hcell xs.length (.int .i64 x) (by simp)
    have hx0 : w.cell? ⟨g, off + xs.length, none⟩ = some (.int .i64 x) := by simpa [World.cell?, hgg] using hx
    have hl1 : (xs ++ [Value.int .i64 x]).length = xs.length + 1 := by simp
    rw [hl1] at hq hlc
    have hw1 : IntKind.i64.wrap ((xs.length : Int) + 1 - 1) = (xs.length : Int) := by rw [IntWalk.i64_in _ (by omega)]; omega
    have hw2 : ((xs.length + 1 : Nat) : Int) - 1 = (xs.length : Int) := by omega
    have HC := Lib.hid hcell
    clear hx hcell hl1
    rw [show (xs ++ [Value.int .i64 x]).length = xs.length + 1 by simp]
    go_enter Try.func83, Try.ntmps83
    go_wp2
    go_ret
    refine ⟨rfl, _, .inr ⟨g, off, cap, cur, rfl, hbg, ?_, by omega, by omega, fun j u hj => ?_⟩, rfl, World.cell?_setCell_same' _ _ _ (by rw [hq]; rfl), by rw [World.frozen?_setCell]; exact hf, ?_⟩
    · exact (Below.heap_setCell w ⟨bq, 0, none⟩ _ g (by show g ≠ bq; omega)).trans hgg
    · exact HC.out j u (by rw [List.getElem?_append_left (List.getElem?_eq_some_iff.1 hj).1]; exact hj)
    · simp [Value.ownBlock]
end Go.Proofs.Ytiacgaplhndlnaa
/-
  What changes in memory and what stays, in plain words: worlds that agree outside some blocks; a stack.
-/
namespace Go.Proofs.Ytiacgaplhndlnaa
open Go.RowKit Go.Shelf
open Lim

theorem setCell_far (w : World) {p q i j : Nat} (v : Value) (h : p ≠ q) : (w.setCell ⟨p, i, none⟩ v).cell? ⟨q, j, none⟩ = w.cell? ⟨q, j, none⟩ := World.cell?_setCell_other w _ _ _ (fun e => h (congrArg Addr.block e))
theorem setCell_off (w : World) {p i j : Nat} (v : Value) (h : i ≠ j) : (w.setCell ⟨p, i, none⟩ v).cell? ⟨p, j, none⟩ = w.cell? ⟨p, j, none⟩ := World.cell?_setCell_other w _ _ _ (fun e => h (congrArg Addr.off e))
theorem setCell_same (w : World) {p i : Nat} {u : Value} (v : Value) (h : w.cell? ⟨p, i, none⟩ = some u) : (w.setCell ⟨p, i, none⟩ v).cell? ⟨p, i, none⟩ = some v := World.cell?_setCell_same' _ _ _ (by rw [h]; rfl)
theorem below_drewN {B : Nat} {w w' : World} (h : Below B w w') (n : Nat) : Below B w (w'.drewN n) := ⟨h.os, h.tape, h.output, h.size, h.block⟩
theorem heap_set_ne {w : World} {g k j : Nat} (v : Value) (h : k ≠ g) : (w.setCell ⟨g, j, none⟩ v).heap[k]? = w.heap[k]? := Below.heap_setCell w ⟨g, j, none⟩ v k h
/-- W' is W, but for the blocks of T; there may be new ones -/
structure Sep (T : Nat → Prop) (W W' : World) : Prop where
  os : W'.os = W.os
  tape : W'.tape = W.tape
  output : W'.output = W.output
  size : W.heap.size ≤ W'.heap.size
  same : ∀ k, k < W.heap.size → ¬ T k → W'.heap[k]? = W.heap[k]?
section
variable {T T' : Nat → Prop} {W W' W'' : World}
theorem Sep.refl (W : World) : Sep T W W := ⟨rfl, rfl, rfl, Nat.le_refl _, fun _ _ _ => rfl⟩
theorem Sep.mono (h : Sep T W W') (hT : ∀ k, T k → T' k) : Sep T' W W' := ⟨h.os, h.tape, h.output, h.size, fun k h1 h2 => h.same k h1 (fun h3 => h2 (hT k h3))⟩
theorem Sep.trans (h : Sep T W W') (h' : Sep T W' W'') : Sep T W W'' :=
  ⟨h'.os.trans h.os, h'.tape.trans h.tape, h'.output.trans h.output, Nat.le_trans h.size h'.size, fun k h1 h2 => (h'.same k (Nat.lt_of_lt_of_le h1 h.size) h2).trans (h.same k h1 h2)⟩
theorem Sep.of_grown {row : Option Nat} (h : W.grownBy W' row) : Sep (fun k => row = some k) W W' := ⟨h.os, h.tape, h.output, h.size, fun k h1 h2 => h.block k h1 (fun e => h2 e.symm)⟩
theorem Sep.of_below (h : Below W.heap.size W W') : Sep T W W' := ⟨h.os, h.tape, h.output, h.size, fun k h1 _ => h.block k h1⟩
theorem Sep.drew (W : World) : Sep T W W.drew := Sep.of_below (Below.refl _ _).drew
theorem Sep.alloc (W : World) (o : Obj) : Sep T W (W.alloc o) := Sep.of_below ((Below.refl _ _).alloc (Nat.le_refl _) o)
theorem Sep.set (W : World) (b j : Nat) (v : Value) : Sep (fun k => k = b) W (W.setCell ⟨b, j, none⟩ v) := ⟨rfl, rfl, rfl, by simp [World.setCell], fun k _ h2 => heap_set_ne v h2⟩
theorem Sep.cell (h : Sep T W W') {b j : Nat} {v : Value} (hc : W.cell? ⟨b, j, none⟩ = some v) (hT : ¬ T b) : W'.cell? ⟨b, j, none⟩ = some v :=
  (World.cell?_of_block (w := W) (h.same b (World.block_lt_of_cell? _ _ hc) hT)).trans hc
theorem Sep.frozen (h : Sep T W W') {b j : Nat} {v : Value} (hc : W.cell? ⟨b, j, none⟩ = some v) (hT : ¬ T b) (hf : W.frozen? ⟨b, j, none⟩ = false) : W'.frozen? ⟨b, j, none⟩ = false :=
  (World.frozen?_of_block (w := W) (h.same b (World.block_lt_of_cell? _ _ hc) hT)).trans hf
theorem Sep.heap (h : Sep T W W') {b : Nat} {o : Obj} (hc : W.heap[b]? = some o) (hT : ¬ T b) : W'.heap[b]? = some o := (h.same b (Array.getElem?_eq_some_iff.1 hc).1 hT).trans hc
theorem Sep.below (h : Sep T W W') {B : Nat} (hB : B ≤ W.heap.size) (hT : ∀ k, T k → B ≤ k) : Below B W W' := ⟨h.os, h.tape, h.output, h.size, fun k hk => h.same k (by omega) (fun h1 => by have := hT k h1; omega)⟩
theorem Sep.on (h : Sep T W W') (hT : ∀ k, k < W.heap.size → ¬ T k) : Below W.heap.size W W' := ⟨h.os, h.tape, h.output, h.size, fun k hk => h.same k hk (hT k hk)⟩
theorem Sep.owns (h : Sep T W W') {base e : Nat} {v : Value} {xs : List Value} (ho : ownsQ W base e v xs) (hT : ∀ k, v.ownBlock = some k → ¬ T k) : ownsQ W' base e v xs := by
  rcases ho with h1 | ⟨g, off, cap, cur, h1, h2, h3, h4⟩
  · exact .inl h1
  · exact .inr ⟨g, off, cap, cur, h1, h2, h.heap h3 (hT g (by rw [h1]; simp [Value.ownBlock])), h4⟩
theorem Sep.grown (h : Sep T W W') {b : Nat} (hT : ∀ k, k < W.heap.size → T k → k = b) : W.grownBy W' (some b) := ⟨h.os, h.tape, h.output, h.size, fun k hk hne => h.same k hk (fun h1 => hne (by rw [hT k hk h1]))⟩
/-- seen from an earlier world -/
theorem Sep.from {W0 : World} (h0 : Sep T W0 W) (h : Sep T' W W') (hT : ∀ k, k < W0.heap.size → T' k → T k) : Sep T W0 W' :=
  ⟨h.os.trans h0.os, h.tape.trans h0.tape, h.output.trans h0.output, Nat.le_trans h0.size h.size, fun k h1 h2 => (h.same k (Nat.lt_of_lt_of_le h1 h0.size) (fun h3 => h2 (hT k h1 h3))).trans (h0.same k h1 h2)⟩
theorem Sep.keeps (h : Sep T W W') (hT : ∀ k o, T k → W.heap[k]? = some o → o.isCells = true) : KeepsOthers W W' :=
  ⟨h.size, fun k o hk ho => (h.same k (Array.getElem?_eq_some_iff.1 hk).1 (fun h1 => by rw [hT k o h1 hk] at ho; cases ho)).trans hk⟩
end
/-- a stack at bs has the numbers q -/
structure StM (bs : Nat) (q : List Nat) (W : World) : Prop where
  ex : ∃ v, W.cell? ⟨bs, 0, none⟩ = some v ∧ W.frozen? ⟨bs, 0, none⟩ = false ∧ ownsQ W (bs + 1) 3 v (ints (q.map Int.ofNat))
/-- its own block does not lie from lo on, below hi -/
def StA (bs lo hi : Nat) (W : World) : Prop := ∀ v g, W.cell? ⟨bs, 0, none⟩ = some v → v.ownBlock = some g → g < lo ∨ hi ≤ g
section
variable {bs lo hi : Nat} {q : List Nat} {W W' : World}
theorem StM.lt (h : StM bs q W) : bs < W.heap.size := let ⟨_, h1, _⟩ := h.ex; World.block_lt_of_cell? _ _ h1
theorem StM.sep {T : Nat → Prop} (h : StM bs q W) (hs : Sep T W W') (hT : ∀ k, T k → k < bs) : StM bs q W' := by
  obtain ⟨v, h1, h2, h3⟩ := h.ex
  have hb : ¬ T bs := fun h => by have := hT _ h; omega
  exact ⟨v, hs.cell h1 hb, hs.frozen h1 hb h2, hs.owns h3 (fun k hk ht => by have := (h3.lt k hk).1; have := hT k ht; omega)⟩
theorem StM.below (h : StM bs q W) (hb : Below W.heap.size W W') : StM bs q W' := h.sep (T := fun _ => False) (Sep.of_below hb) (fun _ h => h.elim)
theorem StM.steady {B : Nat} (h : StM bs q W) (hs : Steady B W W') : StM bs q W' := by
  obtain ⟨v, h1, h2, h3⟩ := h.ex
  exact ⟨v, hs.cell h1, (hs.frozen h1).trans h2, h3.steady hs⟩
theorem StA.sep {T : Nat → Prop} (h : StA bs lo hi W) (hm : StM bs q W) (hs : Sep T W W') (hT : ¬ T bs) : StA bs lo hi W' := by
  obtain ⟨v, h1, -⟩ := hm.ex
  intro u g hu hg
  have h2 := hs.cell h1 hT
  rw [h2] at hu
  cases hu
  exact h v g h1 hg
theorem StA.steady {B : Nat} (h : StA bs lo hi W) (hm : StM bs q W) (hs : Steady B W W') : StA bs lo hi W' := by
  obtain ⟨v, h1, -⟩ := hm.ex
  intro u g hu hg
  rw [hs.cell h1] at hu
  cases hu
  exact h v g h1 hg
theorem StM.apart (h : StM bs q W) (hi : Nat) : StA bs W.heap.size hi W := by
  obtain ⟨v, h1, -, h3⟩ := h.ex
  intro u g hu hg
  rw [h1] at hu
  cases hu
  exact .inl (h3.lt g hg).2
theorem StM.new (W : World) {t : Nat} : StM W.heap.size [] (W.alloc (.cells #[.slice none 0 0] t)) := by
  refine ⟨.slice none 0 0, ?_, ?_, .inl ⟨rfl, rfl⟩⟩ <;> simp [go_sem]
/-- the blocks that a put touches: the stack's box and its own block -/
def StT (bs : Nat) (W : World) (k : Nat) : Prop := k = bs ∨ ∃ v, W.cell? ⟨bs, 0, none⟩ = some v ∧ v.ownBlock = some k
theorem StT.ge (h : StM bs q W) {k : Nat} (hk : StT bs W k) : bs ≤ k := by
  rcases hk with rfl | ⟨v, h1, h2⟩
  · exact Nat.le_refl _
  · obtain ⟨u, h3, -, h4⟩ := h.ex
    rw [h3] at h1; cases h1
    have := (h4.lt k h2).1
    omega
theorem StT.apart (h : StA bs lo hi W) (hb : bs < lo) {k : Nat} (hk : StT bs W k) : k < lo ∨ hi ≤ k := by
  rcases hk with rfl | ⟨v, h1, h2⟩
  · exact .inl hb
  · exact h v k h1 h2
theorem StT.cells (h : StM bs q W) (k : Nat) (o : Obj) (hk : StT bs W k) (ho : W.heap[k]? = some o) : o.isCells = true := by
  obtain ⟨u, h3, -, h4⟩ := h.ex
  rcases hk with rfl | ⟨v, h1, h2⟩
  · obtain ⟨o', h5, h6⟩ := cells_of_cell h3
    have h7 : W.heap[k]? = some o' := h5
    rw [ho] at h7; cases h7; exact h6
  · rw [h3] at h1; cases h1
    rcases h4 with ⟨rfl, -⟩ | ⟨g, off, cap, cur, rfl, -, h5, -⟩
    · simp [Value.ownBlock] at h2
    · simp [Value.ownBlock] at h2
      subst h2
      rw [ho] at h5; cases h5; rfl
end
theorem put_st {bs : Nat} {q : List Nat} {x : Nat} {w : World} (hm : StM bs q w) (hl : q.length ≤ 4000000) :
    Calls Try.prog 81 #[.pointer (some ⟨bs, 0, none⟩), .int .i64 x] w fun e w' => e = .returned (.tuple #[]) ∧ StM bs (q ++ [x]) w' ∧ Sep (StT bs w) w w' ∧ (∀ k, StT bs w' k → StT bs w k ∨ w.heap.size ≤ k) := by
  obtain ⟨v, h1, h2, h3⟩ := hm.ex
  have hlt := hm.lt
  refine (put_any (x := (x : Int)) h1 h2 h3 (Nat.lt_succ_self _) (by omega) (by simpa [ints] using hl)).mono ?_
  rintro e w' ⟨rfl, v', w1, g1, g2, rfl, g4, g5, g6⟩
  refine ⟨rfl, ⟨v', g4, g5, by simpa [ints] using g1⟩, ?_, fun k hk => ?_⟩
  · refine ((Sep.of_grown g2).mono (fun k hk => ?_)).trans ((Sep.set w1 bs 0 v').mono (fun k hk => .inl hk))
    exact .inr ⟨v, h1, hk⟩
  · rcases hk with rfl | ⟨u, h5, h6⟩
    · exact .inl (.inl rfl)
    · rw [g4] at h5; cases h5
      rcases g6 k h6 with h7 | h7
      · exact .inl (.inr ⟨v, h1, h7⟩)
      · exact .inr h7
theorem take_st {bs : Nat} {q : List Nat} {x : Nat} {w : World} (hm : StM bs (q ++ [x]) w) (hl : q.length ≤ 4000000) :
    Calls Try.prog 83 #[.pointer (some ⟨bs, 0, none⟩)] w fun e w' => e = .returned (.int .i64 x) ∧ StM bs q w' ∧ Sep (fun k => k = bs) w w' ∧ (∀ k, StT bs w' k → StT bs w k) := by
  obtain ⟨v, h1, h2, h3⟩ := hm.ex
  have e : ints ((q ++ [x]).map Int.ofNat) = ints (q.map Int.ofNat) ++ [.int .i64 (x : Int)] := by simp [ints]
  rw [e] at h3
  refine (take_any h1 h2 h3 (Nat.lt_succ_self _) (by simpa [ints] using hl)).mono ?_
  rintro e w' ⟨rfl, v', g1, rfl, g3, g4, g5⟩
  refine ⟨rfl, ⟨v', g3, g4, g1⟩, Sep.set w bs 0 v', fun k hk => ?_⟩
  rcases hk with rfl | ⟨u, h5, h6⟩
  · exact .inl rfl
  · rw [g3] at h5; cases h5
    exact .inr ⟨v, h1, by rw [← g5]; exact h6⟩
theorem StM.len {bs : Nat} {q : List Nat} {W : World} (h : StM bs q W) : ∃ a c, W.cell? ⟨bs, 0, none⟩ = some (.slice a q.length c) := by
  obtain ⟨v, h1, -, h3⟩ := h.ex
  rcases h3 with ⟨rfl, h4⟩ | ⟨g, off, cap, cur, rfl, -⟩
  · have : q = [] := by simpa [ints] using h4
    subst this
    exact ⟨_, _, h1⟩
  · exact ⟨_, _, by simpa [ints] using h1⟩
end Go.Proofs.Ytiacgaplhndlnaa
/-
  Which maps are right, and the rim: the contracts of counted, rim, Check.
-/
namespace Go.Proofs.Ytiacgaplhndlnaa
open Go.RowKit Go.Shelf
open Lim

/-- whether there are as many plots as there may be, in whole rows -/
def countB (wd : Int) (n : Nat) : Bool := inB n 1 100 && decide (1 ≤ wd) && decide (n % wd.toNat = 0)
theorem countB_ok {wd : Int} {os : List Int} (h : countB wd os.length = true) : Mp.Ok ⟨wd.toNat, os⟩ ∧ wd = (wd.toNat : Int) := by
  simp only [countB, Bool.and_eq_true, decide_eq_true_eq, inB_iff] at h
  exact ⟨⟨by show 0 < wd.toNat; omega, by show 0 < os.length; omega, by show os.length ≤ 100; omega, h.2⟩, by omega⟩
def errE (wd : Int) (os : List Int) : Int := if countB wd os.length = true then (if ((List.range os.length).all fun k => inB (os.getD k 0) 0 9) = true then 0 else 4) else 3
set_option maxHeartbeats 1000000 in
theorem counted_any {wd : Int} {n c : Nat} {a : Option Addr} {w : World} :
    Calls Try.prog 127 #[.agg #[.int .i64 wd, .slice a n c]] w fun e w' => e = .returned (.bool (countB wd n)) ∧ Below w.heap.size w w' := by
  have hb : Below w.heap.size w (w.alloc (.cells #[.int .i64 wd, .slice a n c] 25)) := (Below.refl _ w).alloc (Nat.le_refl _) _
  have HB := Lib.hid hb
  clear hb
  cases h1 : inB n 1 100 with
  | false =>
    have HC : Hid (countB wd n = false) := Lib.hid (by unfold countB; rw [h1]; rfl)
    go_enter Try.func127, Try.ntmps127
    go_wp2_with (go_at_call 130; refine (in_any _ _ _ _).mono ?_; rintro e w' ⟨rfl, rfl⟩; rw [h1])
    go_ret
    exact ⟨by rw [HC.out]; rfl, HB.out⟩
  | true =>
    have hn := inB_iff.1 h1
    by_cases h2 : 1 ≤ wd
    · have hd : decide (1 ≤ wd) = true := by simpa using h2
      obtain ⟨m, rfl⟩ : ∃ m : Nat, wd = m := ⟨wd.toNat, by omega⟩
      have hm0 : ¬ m = 0 := by omega
      obtain ⟨r, hr⟩ : ∃ r, r = n % m := ⟨_, rfl⟩
      have e5 : (n : Int).tmod (m : Int) = (r : Int) := by rw [hr]; exact (Int.ofNat_tmod n m).symm
      have HC : Hid (countB m n = decide (r = 0)) := Lib.hid (by unfold countB; rw [h1, Int.toNat_natCast, ← hr]; simp; omega)
      clear hr
      by_cases h3 : r = 0
      · have e6 : ((r : Int) == 0) = true := by simp [h3]
        have HD : Hid (decide (r = 0) = true) := Lib.hid (by simp [h3])
        clear h3
        go_enter Try.func127, Try.ntmps127
        go_wp2_with (go_at_call 130; refine (in_any _ _ _ _).mono ?_; rintro e w' ⟨rfl, rfl⟩; rw [h1])
        go_ret
        exact ⟨by rw [HC.out, HD.out]; rfl, HB.out⟩
      · have e6 : ((r : Int) == 0) = false := by rw [beq_eq_false_iff_ne]; omega
        have HD : Hid (decide (r = 0) = false) := Lib.hid (by simp [h3])
        clear h3
        go_enter Try.func127, Try.ntmps127
        go_wp2_with (go_at_call 130; refine (in_any _ _ _ _).mono ?_; rintro e w' ⟨rfl, rfl⟩; rw [h1])
        go_ret
        exact ⟨by rw [HC.out, HD.out]; rfl, HB.out⟩
    · have hd : decide (1 ≤ wd) = false := by simpa using h2
      have HC : Hid (countB wd n = false) := Lib.hid (by unfold countB; rw [hd]; simp)
      go_enter Try.func127, Try.ntmps127
      go_wp2_with (go_at_call 130; refine (in_any _ _ _ _).mono ?_; rintro e w' ⟨rfl, rfl⟩; rw [h1])
      go_ret
      exact ⟨by rw [HC.out]; rfl, HB.out⟩

set_option maxHeartbeats 4000000 in
theorem rim_any {wd n p c : Nat} {a : Option Addr} {w : World} (hw0 : 0 < wd) (hwn : wd ≤ n) (hn : n ≤ 100) (hp : p < n) :
    Calls Try.prog 158 #[.agg #[.int .i64 wd, .slice a n c], .int .i64 p] w fun e w' => e = .returned (.bool (decide (p < wd) || decide (n ≤ p + wd) || decide (p % wd = 0) || decide (p % wd + 1 = wd))) ∧ Below w.heap.size w w' := by
  have hb : Below w.heap.size w (w.alloc (.cells #[.int .i64 wd, .slice a n c] 25)) := (Below.refl _ w).alloc (Nat.le_refl _) _
  have HB := Lib.hid hb
  clear hb
  have f0 : (w.alloc (.cells #[.int .i64 wd, .slice a n c] 25)).cell? ⟨w.heap.size, 0, none⟩ = some (.int .i64 wd) := by simp [go_sem]
  have f1 : (w.alloc (.cells #[.int .i64 wd, .slice a n c] 25)).cell? ⟨w.heap.size, 1, none⟩ = some (.slice a n c) := by simp [go_sem]
  have hm0 : ¬ wd = 0 := by omega
  have hx : IntKind.i64.wrap ((n : Int) - wd) = (n : Int) - wd := IntWalk.i64_in _ (by omega)
  have hy : IntKind.i64.wrap ((wd : Int) - 1) = (wd : Int) - 1 := IntWalk.i64_in _ (by omega)
  obtain ⟨r, hr⟩ : ∃ r, r = p % wd := ⟨_, rfl⟩
  have e5 : (p : Int).tmod (wd : Int) = (r : Int) := by rw [hr]; exact (Int.ofNat_tmod p wd).symm
  rw [← hr]
  clear hr
  obtain ⟨z, hz⟩ : ∃ z, z = (decide (p < wd) || decide (n ≤ p + wd) || decide (r = 0) || decide (r + 1 = wd)) := ⟨_, rfl⟩
  rw [← hz]
  by_cases h1 : p < wd
  · have d1 : decide (p < wd) = true := by simp; omega
    have d1' : decide ((p : Int) < wd) = true := by simp; omega
    have HZ : Hid (z = true) := Lib.hid (by rw [hz]; simp [h1])
    clear hz h1
    go_enter Try.func158, Try.ntmps158
    go_wp2_with fail
    generalize hW : w.alloc (.cells #[.int .i64 wd, .slice a n c] 25) = W0 at HB f0 f1 ⊢
    go_quiet (fail)
    go_wp2
    go_ret
    exact ⟨by rw [HZ.out]; rfl, below_drewN HB.out _⟩
  · have d1 : decide (p < wd) = false := by simp; omega
    have d1' : decide ((p : Int) < wd) = false := by simp; omega
    by_cases h2 : n ≤ p + wd
    · have d2 : decide ((n : Int) - wd ≤ p) = true := by simp; omega
      have HZ : Hid (z = true) := Lib.hid (by rw [hz]; simp [h2])
      clear hz h1 h2
      go_enter Try.func158, Try.ntmps158
      go_wp2_with fail
      generalize hW : w.alloc (.cells #[.int .i64 wd, .slice a n c] 25) = W0 at HB f0 f1 ⊢
      go_quiet (fail)
      go_wp2
      go_ret
      exact ⟨by rw [HZ.out]; rfl, below_drewN HB.out _⟩
    · have d2 : decide ((n : Int) - wd ≤ p) = false := by simp; omega
      by_cases h3 : r = 0
      · have d3 : ((r : Int) == 0) = true := by simp [h3]
        have HZ : Hid (z = true) := Lib.hid (by rw [hz]; simp [h3])
        clear hz h1 h2 h3
        go_enter Try.func158, Try.ntmps158
        go_wp2_with fail
        generalize hW : w.alloc (.cells #[.int .i64 wd, .slice a n c] 25) = W0 at HB f0 f1 ⊢
        go_quiet (fail)
        go_wp2
        go_ret
        exact ⟨by rw [HZ.out]; rfl, below_drewN HB.out _⟩
      · have d3 : ((r : Int) == 0) = false := by rw [beq_eq_false_iff_ne]; omega
        by_cases h4 : r + 1 = wd
        · have d4 : ((r : Int) == (wd : Int) - 1) = true := by rw [beq_iff_eq]; omega
          have HZ : Hid (z = true) := Lib.hid (by rw [hz]; simp [h4])
          clear hz h1 h2 h3 h4
          go_enter Try.func158, Try.ntmps158
          go_wp2_with fail
          generalize hW : w.alloc (.cells #[.int .i64 wd, .slice a n c] 25) = W0 at HB f0 f1 ⊢
          go_quiet (fail)
          go_wp2
          go_ret
          exact ⟨by rw [HZ.out]; rfl, below_drewN HB.out _⟩
        · have d4 : ((r : Int) == (wd : Int) - 1) = false := by rw [beq_eq_false_iff_ne]; omega
          have HZ : Hid (z = false) := Lib.hid (by rw [hz]; simp [h1, h2, h3, h4])
          clear hz h1 h2 h3 h4
          go_enter Try.func158, Try.ntmps158
          go_wp2_with fail
          generalize hW : w.alloc (.cells #[.int .i64 wd, .slice a n c] 25) = W0 at HB f0 f1 ⊢
          go_quiet (fail)
          go_wp2
          go_ret
          exact ⟨by rw [HZ.out]; rfl, below_drewN HB.out _⟩
theorem rim_map {m : Mp} (hm : m.Ok) {p c : Nat} {a : Option Addr} {w : World} (hp : p < m.n) :
    Calls Try.prog 158 #[.agg #[.int .i64 m.wd, .slice a m.n c], .int .i64 p] w fun e w' => e = .returned (.bool (rimB m p)) ∧ Below w.heap.size w w' := rim_any hm.w0 hm.wn hm.n1 hp
set_option maxHeartbeats 400000 in
theorem check1_any (n : Int) (w : World) : Calls Try.prog 129 #[.int .i64 n] w fun e w' => e = .returned (.bool (inB n 0 9)) ∧ w = w' := by
  go_enter Try.func129, Try.ntmps129
  go_wp2_with (go_at_call 130; refine (in_any _ _ _ _).mono ?_; rintro e w' ⟨rfl, rfl⟩)
  go_ret
  exact ⟨rfl, rfl⟩
theorem says_check1 (os : List Int) (w : World) : Says 129 #[] os.length (fun k => .int .i64 (os.getD k 0)) (fun k => inB (os.getD k 0) 0 9) w := by
  intro k hk W hb
  simp only [Array.append_empty]
  exact (check1_any _ W).mono (fun e w' h => ⟨h.1, by rw [← h.2]; exact Below.refl _ _⟩)
set_option maxRecDepth 20000 in
set_option maxHeartbeats 400000 in
theorem Check_any {B : Nat} {wd : Int} {ov : Value} {os : List Int} {w : World} (hl : os.length ≤ 100000) (hB : B ≤ w.heap.size) (hv : RS B w ov os.length (ints os)) :
    Calls Try.prog 79 #[.agg #[.int .i64 wd, ov]] w fun e w' => e = .returned (.int .i64 (errE wd os)) ∧ Below w.heap.size w w' := by
  have hb : Below w.heap.size w (w.alloc (.cells #[.int .i64 wd, ov] 25)) := (Below.refl _ w).alloc (Nat.le_refl _) _
  have HB := Lib.hid hb
  have HV := Lib.hid hv
  have HL := Lib.hid hl
  obtain ⟨a, c, rfl, -⟩ := hv
  clear hb hl
  have f0 : (w.alloc (.cells #[.int .i64 wd, .slice a os.length c] 25)).cell? ⟨w.heap.size, 0, none⟩ = some (.int .i64 wd) := by simp [go_sem]
  have f1 : (w.alloc (.cells #[.int .i64 wd, .slice a os.length c] 25)).cell? ⟨w.heap.size, 1, none⟩ = some (.slice a os.length c) := by simp [go_sem]
  have HC := Lib.hid (counted_any (wd := wd) (n := os.length) (c := c) (a := a) (w := w.alloc (.cells #[.int .i64 wd, .slice a os.length c] 25)))
  go_enter Try.func79, Try.ntmps79
  go_wp2_with fail
  refine HC.out.mono ?_
  rintro e w1 ⟨rfl, hb1⟩
  have r1 := hb1.on f1
  have HB1 := Lib.hid (HB.out.trans (hb1.mono HB.out.size))
  clear hb1 f0 f1 HC
  cases hc : countB wd os.length with
  | false =>
    have HE : Hid (errE wd os = 3) := Lib.hid (by rw [errE, hc]; rfl)
    clear hc
    go_wp2_with fail
    go_ret
    exact ⟨by rw [HE.out]; rfl, HB1.out⟩
  | true =>
    have HCC := Lib.hid hc
    clear hc
    have HE := Lib.hid (every_any (B := B) (p := fun k => inB (os.getD k 0) 0 9) (enters_of Try.func129 (by kernel_rfl) rfl) HL.out (HV.out.below (HB1.out.mono hB)) (by have := HB1.out.size; omega) (says_check1 os _))
    go_wp2_with fail
    refine HE.out.mono ?_
    rintro e w2 ⟨rfl, hb2⟩
    have HB2 := Lib.hid (HB1.out.trans (hb2.mono HB1.out.size))
    clear hb2 HE
    obtain ⟨z, hz⟩ : ∃ z, z = (List.range os.length).all fun k => inB (os.getD k 0) 0 9 := ⟨_, rfl⟩
    rw [← hz]
    have HE : Hid (errE wd os = if z = true then 0 else 4) := Lib.hid (by rw [errE, HCC.out, hz]; rfl)
    clear hz
    cases z <;> (go_wp2_with fail; go_ret; exact ⟨by rw [HE.out]; rfl, HB2.out⟩)
end Go.Proofs.Ytiacgaplhndlnaa
