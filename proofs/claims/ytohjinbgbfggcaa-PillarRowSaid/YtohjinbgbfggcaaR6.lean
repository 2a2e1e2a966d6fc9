/-
  Parts of the proof, in the order in which they build: Queue, Relax.
-/
import Derived.ArgAppend
import Derived.Deep.AppendLies
import Derived.Test.YtohjinbgbfggcaaR5
import Derived.Test.YtohjinbgbfggcaaR1
set_option linter.unusedVariables false
set_option linter.unusedSimpArgs false
/-
  The queue of package ridge: a slice in a box, put to behind, taken from in front. Its slice may begin anywhere in its block.
-/
namespace Go.Proofs.Ytohjinbgbfggcaa.Rg
open Go.RowKit Go.Shelf
open Lim

end Go.Proofs.Ytohjinbgbfggcaa.Rg
namespace Go.Proofs.Ytohjinbgbfggcaa.Lim
open Go.RowKit Go.Shelf
/-- the slice v, of one-cell elements of type e, owns the cells xs, wherever in its block they lie -/
def ownsQ (w : World) (base e : Nat) (v : Value) (xs : List Value) : Prop :=
  (v = .slice none 0 0 ∧ xs = []) ∨ ∃ g off cap cur, v = .slice (some ⟨g, off, none⟩) xs.length cap ∧ base ≤ g ∧ w.heap[g]? = some (.cells cur e (0, 0)) ∧ xs.length ≤ cap ∧ off + cap ≤ cur.size ∧
    ∀ j u, xs[j]? = some u → cur[off + j]? = some u
theorem ownsQ.of_owns {w : World} {base e : Nat} {v : Value} {n : Nat} {xs : List Value} (h : w.ownsRow base e 1 v n xs) : ownsQ w base e v xs := by
  obtain ⟨hl, h2⟩ := h
  have hn : n = xs.length := by omega
  rcases h2 with ⟨rfl, h0⟩ | ⟨g, cap, cur, rfl, hb, hg, hc, hm, hs, ht⟩
  · exact .inl ⟨rfl, List.eq_nil_of_length_eq_zero (by omega)⟩
  · refine .inr ⟨g, 0, cap, cur, by rw [hn], hb, hg, by omega, by omega, fun j u hj => ?_⟩
    rw [← ht, List.getElem?_take] at hj
    split at hj
    · simpa using hj
    · cases hj
theorem ownsQ.below {w w' : World} {base e : Nat} {v : Value} {xs : List Value} (h : ownsQ w base e v xs) (hb : Below w.heap.size w w') : ownsQ w' base e v xs := by
  rcases h with h | ⟨g, off, cap, cur, h1, h2, h3, h4⟩
  · exact .inl h
  · exact .inr ⟨g, off, cap, cur, h1, h2, (hb.block g (Array.getElem?_eq_some_iff.1 h3).1).trans h3, h4⟩
theorem ownsQ.steady {w w' : World} {B base e : Nat} {v : Value} {xs : List Value} (h : ownsQ w base e v xs) (hb : Steady B w w') : ownsQ w' base e v xs := by
  rcases h with h | ⟨g, off, cap, cur, h1, h2, h3, h4⟩
  · exact .inl h
  · exact .inr ⟨g, off, cap, cur, h1, h2, hb.block h3, h4⟩
theorem ownsQ.kept {w w' : World} {base e : Nat} {v : Value} {row : Option Nat} {xs : List Value} (h : ownsQ w base e v xs) (hg : w.grownBy w' row) (hne : ∀ r, row = some r → r < base) : ownsQ w' base e v xs := by
  rcases h with h | ⟨g, off, cap, cur, h1, h2, h3, h4⟩
  · exact .inl h
  · exact .inr ⟨g, off, cap, cur, h1, h2, (hg.block g (Array.getElem?_eq_some_iff.1 h3).1 (fun e => by have := hne _ e.symm; omega)).trans h3, h4⟩
theorem ownsQ.lt {w : World} {base e : Nat} {v : Value} {xs : List Value} (h : ownsQ w base e v xs) : ∀ k, v.ownBlock = some k → base ≤ k ∧ k < w.heap.size := by
  intro k hk
  rcases h with ⟨rfl, _⟩ | ⟨g, off, cap, cur, rfl, hb, hg, _⟩
  · simp [Value.ownBlock] at hk
  · simp [Value.ownBlock] at hk
    subst hk
    exact ⟨hb, (Array.getElem?_eq_some_iff.1 hg).1⟩

theorem ownsQ.form {w : World} {base e : Nat} {v : Value} {xs : List Value} (h : ownsQ w base e v xs) {k : Nat} (hk : xs.length = k + 1) : ∃ g off cap, v = .slice (some ⟨g, off, none⟩) (k + 1) cap := by
  rcases h with ⟨_, rfl⟩ | ⟨g, off, cap, cur, hv, _⟩
  · simp at hk
  · exact ⟨g, off, cap, by rw [← hk]; exact hv⟩
theorem heap_setCell_self {w : World} {g o : Nat} {cur : Array Value} {e : Nat} {fr : Nat × Nat} (u : Value) (h : w.heap[g]? = some (.cells cur e fr)) : (w.setCell ⟨g, o, none⟩ u).heap[g]? = some (.cells (cur.setIfInBounds o u) e fr) := by
  obtain ⟨hlt, hk⟩ := Array.getElem?_eq_some_iff.1 h
  simp only [World.setCell]
  rw [Array.getElem?_eq_getElem (by rw [Array.size_modify]; exact hlt), Array.getElem_modify_self, hk]
  rfl
theorem grownBy_setCell (w : World) (a : Addr) (u : Value) : w.grownBy (w.setCell a u) (some a.block) :=
  ⟨rfl, rfl, rfl, by simp [World.setCell], fun k _ hk => Below.heap_setCell _ _ _ _ (fun e => hk (by rw [e]))⟩

/-- 'append(q, x)' of one element of one cell -/
theorem wpList_append_q {P : Program} (w : World) {ops : Array Oper} {rest : List Oper} {o : Oper} {a : Act} {Q : Exit → Act → World → Prop}
    (hg : o.guard = none) (s x : Operand) (t : TypeId) (hop : o.op = Op.call { callee := Callee.builtin Builtin.append, args := #[s, x], argTypes := #[t, t] })
    (e : TypeId) (i : TypeInfo) (z : Value) (bytes : Nat) (h1 : P.underlying t = some (.slice e)) (h2 : P.info? e = some i) (h3 : i.zero = some z) (h4 : i.size = 1) (h5 : i.bytes = bytes) (h6 : z.cells.size = 1)
    (base : Nat) (v : Value) (xs : List Value) (hs : a.eval s = v) (hown : ownsQ w base e v xs)
    (ad : Addr) (c : Nat) (u : Value) (hx : a.eval x = .slice (some ad) 1 c) (hc : w.cell? ad = some u) (h1c : u.oneCell' = true)
    (b1 : xs.length + 1 ≤ maxLen) (b2 : (xs.length + 1) * bytes ≤ 140737488355328) (hbase : base ≤ w.heap.size)
    (h : ∀ v' w', ownsQ w' base e v' (xs ++ [u]) → w.grownBy w' v.ownBlock → (∀ k, v'.ownBlock = some k → v.ownBlock = some k ∨ w.heap.size ≤ k) → wpList P ops Q rest (a.put o.dst v') w') :
    wpList P ops Q (o :: rest) a w := by
  have hnews : ∀ j v, ([u] : List Value)[j]? = some v → w.cell? (ad.add j) = some v := by
    intro j v hj
    match j with
    | 0 => simp at hj; subst hj; simpa [Addr.add] using hc
    | j + 1 => simp at hj
  rcases hown with ⟨rfl, rfl⟩ | ⟨g, off, cap, cur, rfl, hb, hgg, hlc, hcs, hcell⟩
  · refine wpList_append_own w hg s x t hop w.heap.size e i z 1 bytes h1 h2 h3 h4 h5 h6 (by omega) _ 0 [] hs (World.ownsRow_nil _ _ _ _) ad 1 c [u] hx rfl hnews (by simpa using h1c) (by simpa using b1) (by simpa using b2) (Nat.le_refl _) ?_
    intro v' w' hown hgr _
    exact h v' w' (ownsQ.of_owns (n := 0 + 1) (owns_mono hown hbase)) hgr (fun k hk => .inr ((ownsQ.of_owns (n := 0 + 1) hown).lt k hk).1)
  · refine wpList_append_arg w hg s x t hop e i z 1 bytes h1 h2 h3 h4 h5 h6 (by omega) g off xs.length cap xs hs (by simp) ?_ ad 1 c [u] hx rfl hnews (by simpa using h1c) ?_ b1 b2 ?_ ?_
    · intro j v hj
      have := hcell j v hj
      simp [World.cell?, hgg, this]
    · intro hroom j hj
      obtain rfl : j = 0 := by simpa using hj
      have hlt : off + xs.length < cur.size := by omega
      simp [World.cell?, World.frozen?, hgg, hlt]
    · intro hroom
      have hset : w.setCells g (off + xs.length * 1) [u] = w.setCell ⟨g, off + xs.length, none⟩ u := by simp [World.setCells]
      rw [hset]
      refine h _ _ (.inr ⟨g, off, cap, cur.setIfInBounds (off + xs.length) u, by simp, hb, heap_setCell_self u hgg, by simpa using hroom, by simpa using hcs, ?_⟩) (grownBy_setCell _ _ _) (fun k hk => .inl hk)
      intro j y hj
      rw [Array.getElem?_setIfInBounds]
      by_cases hjn : j < xs.length
      · rw [List.getElem?_append_left hjn] at hj
        rw [if_neg (by omega)]
        exact hcell j y hj
      · rw [List.getElem?_append_right (by omega)] at hj
        have hj0 : j - xs.length = 0 := by
          rcases Nat.eq_zero_or_pos (j - xs.length) with h | h
          · exact h
          · rw [List.getElem?_eq_none (by simp; omega)] at hj; cases hj
        have : j = xs.length := by omega
        subst this
        simp at hj
        rw [if_pos rfl, if_pos (by omega), hj]
    · intro hgrow v' w' hown hgr
      exact h v' w' (ownsQ.of_owns (n := xs.length + 1) (owns_mono hown hbase)) ⟨hgr.os, hgr.tape, hgr.output, hgr.size, fun k hk _ => hgr.block k hk (by simp)⟩ (fun k hk => .inr ((ownsQ.of_owns (n := xs.length + 1) hown).lt k hk).1)
end Go.Proofs.Ytohjinbgbfggcaa.Lim
namespace Go.Proofs.Ytohjinbgbfggcaa.Rg
open Go.RowKit Go.Shelf
open Lim

set_option maxHeartbeats 400000 in
theorem put_any {w : World} {bq base : Nat} {v : Value} {xs : List Value} {x : Int} (hq : w.cell? ⟨bq, 0, none⟩ = some v) (hf : w.frozen? ⟨bq, 0, none⟩ = false) (hown : ownsQ w base 3 v xs) (hb : bq < base) (hbase : base ≤ w.heap.size) (hl : xs.length ≤ 4000000) :
    Calls Try.prog 93 #[.pointer (some ⟨bq, 0, none⟩), .int .i64 x] w fun e w' => e = .returned (.tuple #[]) ∧
      ∃ v' w1, ownsQ w' base 3 v' (xs ++ [.int .i64 x]) ∧ w.grownBy w1 v.ownBlock ∧ w' = w1.setCell ⟨bq, 0, none⟩ v' ∧ w'.cell? ⟨bq, 0, none⟩ = some v' ∧ w'.frozen? ⟨bq, 0, none⟩ = false ∧ ∀ k, v'.ownBlock = some k → v.ownBlock = some k ∨ w.heap.size ≤ k := by
  obtain ⟨i0, hi, hz0, hz1, hz2⟩ := info_parts Try.infoInt
  have HI := Lib.hid (And.intro hi (And.intro hz0 (And.intro hz1 hz2)))
  clear hi hz0 hz1 hz2
  have hbw : bq < w.heap.size := World.block_lt_of_cell? _ _ hq
  go_enter Try.func93, Try.ntmps93
  go_wp2_with (at_builtin; refine wpList_append_q _ rfl _ _ 25 rfl 3 i0 (.int .i64 0) 8 Try.underlying25 HI.out.1 HI.out.2.1 HI.out.2.2.1 HI.out.2.2.2 rfl base v xs rfl (hown.below ((Below.refl _ _).alloc (Nat.le_refl _) _)) ⟨w.heap.size, 0, none⟩ 1 (.int .i64 x) rfl (by simp [go_sem]) rfl (by unfold maxLen; omega) (by omega) (by simp; omega) ?_; intro v' w1 hown1 hgrow hnew; have HNEW := Lib.hid hnew; clear hnew; obtain ⟨g', off', cap', hv'⟩ := hown1.form (k := xs.length) (by simp); subst hv'; have hq1 : w1.cell? ⟨bq, 0, none⟩ = some v := hgrow.cell (cell_al _ hq) (fun e => by have := hown.lt _ e.symm; simp at this; omega); have hf1 : w1.frozen? ⟨bq, 0, none⟩ = false := (hgrow.frozen_far ⟨bq, 0, none⟩ (by simp; omega) (fun e => by have := hown.lt _ e.symm; simp at this; omega)).trans (frozen_on ((Below.refl _ _).alloc (Nat.le_refl _) _) hq hf))
  refine bodyPost_end (results_none rfl _ _ _) rfl ⟨rfl, _, w1, ?_, ?_, rfl, World.cell?_setCell_same' _ _ _ (by rw [hq1]; rfl), by rw [World.frozen?_setCell]; exact hf1, fun k hk => (HNEW.out k hk).imp id (fun h => by simp at h; omega)⟩
  · exact hown1.kept (grownBy_setCell w1 ⟨bq, 0, none⟩ _) (fun r e => by cases e; exact hb)
  · exact (World.grownBy_alloc w _ _).trans hgrow

set_option maxHeartbeats 400000 in
theorem take_any {w : World} {bq base : Nat} {v : Value} {xs : List Value} {x : Int} (hq : w.cell? ⟨bq, 0, none⟩ = some v) (hf : w.frozen? ⟨bq, 0, none⟩ = false) (hown : ownsQ w base 3 v (.int .i64 x :: xs)) (hb : bq < base) (hl : xs.length ≤ 4000000) :
    Calls Try.prog 94 #[.pointer (some ⟨bq, 0, none⟩)] w fun e w' => e = .returned (.int .i64 x) ∧
      ∃ v', ownsQ w' base 3 v' xs ∧ w' = w.setCell ⟨bq, 0, none⟩ v' ∧ w'.cell? ⟨bq, 0, none⟩ = some v' ∧ w'.frozen? ⟨bq, 0, none⟩ = false := by
  rcases hown with ⟨_, h0⟩ | ⟨g, off, cap, cur, rfl, hbg, hgg, hlc, hcs, hcell⟩
  · cases h0
  · have hx := hcell 0 _ rfl
    have hx0 : w.cell? ⟨g, off, none⟩ = some (.int .i64 x) := by simpa [World.cell?, hgg] using hx
    simp only [List.length_cons] at hlc hq
    have hlen : (Value.int .i64 x :: xs).length = xs.length + 1 := rfl
    by_cases hcap : cap = 1
    · subst hcap
      obtain rfl : xs = [] := List.eq_nil_of_length_eq_zero (by omega)
      simp only [List.length_nil, Nat.zero_add] at hq
      go_enter Try.func94, Try.ntmps94
      clear hlen hx hcell
      go_wp2
      go_ret
      refine ⟨rfl, _, .inr ⟨g, off, 0, cur, rfl, hbg, ?_, Nat.le_refl _, by omega, by simp⟩, rfl, World.cell?_setCell_same' _ _ _ (by rw [hq]; rfl), by rw [World.frozen?_setCell]; exact hf⟩
      exact (Below.heap_setCell w ⟨bq, 0, none⟩ _ g (by show g ≠ bq; omega)).trans hgg
    · go_enter Try.func94, Try.ntmps94
      clear hlen hx
      have HC := Lib.hid hcell
      clear hcell
      go_wp2
      go_ret
      refine ⟨rfl, _, .inr ⟨g, off + 1, cap - 1, cur, rfl, hbg, ?_, by omega, by omega, fun j u hj => ?_⟩, rfl, World.cell?_setCell_same' _ _ _ (by rw [hq]; rfl), by rw [World.frozen?_setCell]; exact hf⟩
      · exact (Below.heap_setCell w ⟨bq, 0, none⟩ _ g (by show g ≠ bq; omega)).trans hgg
      · have := HC.out (j + 1) u (by simpa using hj)
        rw [show off + (j + 1) = off + 1 + j from by omega] at this
        exact this

end Go.Proofs.Ytohjinbgbfggcaa.Rg
/-
  The passes in plain words: what a queue of cells that wait keeps, and that it comes to the passes.
-/
namespace Go.Proofs.Ytohjinbgbfggcaa.Rg

def upd (o : Nat → Int) (k : Nat) (v : Int) : Nat → Int := fun c => if c = k then v else o c
theorem upd_same (o : Nat → Int) (k : Nat) (v : Int) : upd o k v k = v := by simp [upd]
theorem upd_ne (o : Nat → Int) {k c : Nat} (v : Int) (h : c ≠ k) : upd o k v c = o c := by simp [upd, h]

theorem upd_upd (o : Nat → Int) (k : Nat) (v u : Int) : upd (upd o k v) k u = upd o k u := by funext c; simp only [upd]; split <;> rfl
/-- what the walk over the waiting cells keeps; c is the cell at hand, pre those of its neighbours that were seen -/
structure PMid (g : Gd) (t : Nat → Int) (s : Int) (o : Nat → Int) (q : List Nat) (c : Nat) (pre : List Int) : Prop where
  top : ∀ k, k < g.n → 0 ≤ o k ∧ o k ≤ 10001
  sound : ∀ k, k < g.n → o k < 10001 → R g t s (o k) k
  far : ∀ k, g.n ≤ k → o k = 0
  sea : ∀ k, land g k → atB g k s = true → o k ≤ t k
  shut : ∀ k, land g k → o k < 10001 → k ∉ q → k ≠ c → ∀ j, land g j → nb g k j → o j ≤ max (o k) (t j)
  here : land g c ∧ o c < 10001
  seen : ∀ k : Nat, (k : Int) ∈ pre → land g k → o k ≤ max (o c) (t k)
  wait : ∀ k ∈ q, land g k ∧ o k < 10001

structure PInv (g : Gd) (t : Nat → Int) (s : Int) (o : Nat → Int) (q : List Nat) : Prop where
  top : ∀ k, k < g.n → 0 ≤ o k ∧ o k ≤ 10001
  sound : ∀ k, k < g.n → o k < 10001 → R g t s (o k) k
  far : ∀ k, g.n ≤ k → o k = 0
  sea : ∀ k, land g k → atB g k s = true → o k ≤ t k
  shut : ∀ k, land g k → o k < 10001 → k ∉ q → ∀ j, land g j → nb g k j → o j ≤ max (o k) (t j)
  wait : ∀ k ∈ q, land g k ∧ o k < 10001

theorem PInv.take {g : Gd} {t : Nat → Int} {s : Int} {o : Nat → Int} {c : Nat} {q : List Nat} (h : PInv g t s o (c :: q)) : PMid g t s o q c [] :=
  ⟨h.top, h.sound, h.far, h.sea, fun k hk ho hq hc => h.shut k hk ho (by simp [hq, hc]), h.wait c (by simp), by simp, fun k hk => h.wait k (by simp [hk])⟩

theorem PMid.done {g : Gd} {t : Nat → Int} {s : Int} {o : Nat → Int} {c : Nat} {q : List Nat} (h : PMid g t s o q c (nbrL g.wd g.n c)) : PInv g t s o q :=
  ⟨h.top, h.sound, h.far, h.sea, fun k hk ho hq j hj hn => by
    by_cases hc : k = c
    · subst hc; exact h.seen j hn hj
    · exact h.shut k hk ho hq hc j hj hn, h.wait⟩

theorem nb_ne {g : Gd} (hg : g.Ok) {c k : Nat} (h : nb g c k) : k ≠ c := by
  have := hg.w0
  rcases mem_nbr.1 h with h | h | h | h <;> omega

theorem PMid.skip {g : Gd} {t : Nat → Int} {s : Int} {o : Nat → Int} {c : Nat} {q : List Nat} {pre : List Int} {k : Nat} (h : PMid g t s o q c pre) (hk : land g k → o k ≤ max (o c) (t k)) : PMid g t s o q c (pre ++ [(k : Int)]) :=
  ⟨h.top, h.sound, h.far, h.sea, h.shut, h.here, fun j hj hl => by
    rcases List.mem_append.1 hj with hj | hj
    · exact h.seen j hj hl
    · have : j = k := by simp at hj; omega
      subst this; exact hk hl, h.wait⟩

theorem PMid.relax {g : Gd} (hg : g.Ok) {t : Nat → Int} {s : Int} {o : Nat → Int} {c : Nat} {q : List Nat} {pre : List Int} {k : Nat} (h : PMid g t s o q c pre) (hn : nb g c k) (hl : land g k) (ht : 0 ≤ t k)
    (hlt : max (o c) (t k) < o k) : PMid g t s (upd o k (max (o c) (t k))) (q ++ [k]) c (pre ++ [(k : Int)]) := by
  have hne := nb_ne hg hn
  have hne' : c ≠ k := Ne.symm hne
  have hc := h.here
  have hk := h.top k hl.1
  refine ⟨fun j hj => ?_, fun j hj ho => ?_, fun j hj => ?_, fun j hj ha => ?_, fun j hj ho hq hjc i hi hni => ?_, ⟨hc.1, by rw [upd_ne _ _ hne']; exact hc.2⟩, fun j hj hjl => ?_, fun j hj => ?_⟩
  · by_cases e : j = k
    · subst e; rw [upd_same]; have := (h.top c hc.1.1).1; omega
    · rw [upd_ne _ _ e]; exact h.top j hj
  · by_cases e : j = k
    · subst e
      rw [upd_same]
      exact .step ⟨hl, by omega⟩ (nb_symm hg hc.1.1 hn) ((h.sound c hc.1.1 hc.2).le (by omega))
    · rw [upd_ne _ _ e] at ho ⊢; exact h.sound j hj ho
  · have e : j ≠ k := by have := hl.1; omega
    rw [upd_ne _ _ e]; exact h.far j hj
  · by_cases e : j = k
    · subst e; rw [upd_same]; have := h.sea j hl ha; omega
    · rw [upd_ne _ _ e]; exact h.sea j hj ha
  · have e : j ≠ k := fun e => hq (by simp [e])
    rw [upd_ne _ _ e] at ho ⊢
    have := h.shut j hj ho (fun hm => hq (by simp [hm])) hjc i hi hni
    by_cases e2 : i = k
    · subst e2; rw [upd_same]; omega
    · rw [upd_ne _ _ e2]; exact this
  · rw [upd_ne _ _ hne']
    by_cases e : j = k
    · subst e; rw [upd_same]; omega
    · rw [upd_ne _ _ e]
      rcases List.mem_append.1 hj with hj | hj
      · exact h.seen j hj hjl
      · simp at hj; omega
  · by_cases e : j = k
    · subst e; rw [upd_same]; exact ⟨hl, by omega⟩
    · rw [upd_ne _ _ e]
      rcases List.mem_append.1 hj with hj | hj
      · exact h.wait j hj
      · simp at hj; omega

theorem PInv.done {g : Gd} (hg : g.Ok) {t : Nat → Int} {s : Int} {o : Nat → Int} (h : PInv g t s o []) : IsPass g t s o := by
  refine .of_closed hg (fun c hc => (h.top c hc).2) h.sound h.sea (fun c k hc hk hn => ?_)
  have := (h.top k hk.1).2
  rcases Int.lt_or_le (o c) 10001 with h1 | h1
  · exact h.shut c hc h1 (by simp) k hk hn
  · omega

/-- what falls with each cell that is taken or put -/
def sumTo (o : Nat → Int) : Nat → Nat
  | 0 => 0
  | n + 1 => sumTo o n + (o n).toNat
theorem sumTo_upd (o : Nat → Int) (k : Nat) (v : Int) : ∀ n, n ≤ k → sumTo (upd o k v) n = sumTo o n := by
  intro n
  induction n with
  | zero => intro _; rfl
  | succ n ih => intro h; simp only [sumTo]; rw [ih (by omega), upd_ne _ _ (by omega)]
theorem sumTo_less (o : Nat → Int) (k : Nat) (v : Int) (h0 : 0 ≤ v) (h1 : v < o k) : ∀ n, k < n → sumTo (upd o k v) n + 1 ≤ sumTo o n := by
  intro n
  induction n with
  | zero => intro h; omega
  | succ n ih =>
    intro h
    simp only [sumTo]
    by_cases e : k = n
    · subst e; rw [sumTo_upd _ _ _ _ (Nat.le_refl _), upd_same]; omega
    · have := ih (by omega); rw [upd_ne _ _ (by omega)]; omega
theorem sumTo_le (o : Nat → Int) (m : Nat) : ∀ n, (∀ k, k < n → o k ≤ m) → sumTo o n ≤ n * m := by
  intro n
  induction n with
  | zero => intro _; simp [sumTo]
  | succ n ih => intro h; have := ih (fun k hk => h k (by omega)); have := h n (by omega); simp only [sumTo, Nat.add_mul]; omega
def meas (n : Nat) (o : Nat → Int) (q : List Nat) : Nat := 2 * sumTo o n + q.length

/-- the cells beside a sea -/
def startB (g : Gd) (s : Int) (c : Nat) : Bool := decide (g.ss.getD c 0 = 0) && atB g c s
def pass0 (g : Gd) (t : Nat → Int) (s : Int) (m : Nat) : Nat → Int := fun c => if c < m then (if startB g s c then t c else 10001) else 0
def queue0 (g : Gd) (s : Int) (m : Nat) : List Nat := (List.range m).filter (startB g s)
theorem queue0_succ (g : Gd) (s : Int) (m : Nat) : queue0 g s (m + 1) = queue0 g s m ++ if startB g s m then [m] else [] := by
  unfold queue0; rw [List.range_succ, List.filter_append]; simp [List.filter_cons]
theorem queue0_length (g : Gd) (s : Int) (m : Nat) : (queue0 g s m).length ≤ m := by
  have := List.length_filter_le (startB g s) (List.range m); simpa [queue0] using this
theorem pass0_succ (g : Gd) (t : Nat → Int) (s : Int) (m : Nat) : pass0 g t s (m + 1) = upd (pass0 g t s m) m (if startB g s m then t m else 10001) := by
  funext c
  unfold pass0 upd
  by_cases e : c = m
  · subst e; simp
  · simp only [e, if_false]
    by_cases h : c < m
    · rw [if_pos (by omega), if_pos h]
    · rw [if_neg (by omega), if_neg h]
theorem PInv.start {g : Gd} {t : Nat → Int} {s : Int} (ht : ∀ c, c < g.n → 0 ≤ t c ∧ t c ≤ 10000) : PInv g t s (pass0 g t s g.n) (queue0 g s g.n) := by
  have hb : ∀ {k}, k < g.n → startB g s k = true → land g k ∧ atB g k s = true := fun hk h => by
    simp [startB] at h; exact ⟨⟨hk, by simpa using h.1⟩, h.2⟩
  have hv : ∀ {k}, k < g.n → pass0 g t s g.n k = if startB g s k then t k else 10001 := fun hk => by simp [pass0, hk]
  refine ⟨fun k hk => ?_, fun k hk ho => ?_, fun k hk => ?_, fun k hk ha => ?_, fun k hk ho hq => ?_, fun k hk => ?_⟩
  · rw [hv hk]; have := ht k hk; split <;> omega
  · rw [hv hk] at ho ⊢
    split at ho
    · rename_i h; rw [if_pos h]; exact .base ⟨(hb hk h).1, Int.le_refl _⟩ (hb hk h).2
    · omega
  · simp [pass0]; omega
  · rw [hv hk.1, if_pos]
    · exact Int.le_refl _
    · simp [startB, ha]; simpa using hk.2
  · rw [hv hk.1] at ho
    split at ho
    · rename_i h; exact absurd (List.mem_filter.2 ⟨List.mem_range.2 hk.1, h⟩) hq
    · omega
  · obtain ⟨h1, h2⟩ := List.mem_filter.1 hk
    have h1 := List.mem_range.1 h1
    refine ⟨(hb h1 h2).1, ?_⟩
    rw [hv h1, if_pos h2]; have := ht k h1; omega

end Go.Proofs.Ytohjinbgbfggcaa.Rg
