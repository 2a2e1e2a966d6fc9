/-
  Parts of the proof, in the order in which they build: EvZ, EwA.
-/
import Derived.OwnWalkIn
import Derived.Test.YtkjcnkkmhkcddaaA28
import Derived.Test.YtkjcnkkmhkcddaaA20
import Derived.Test.YtkjcnkkmhkcddaaC1
set_option linter.unusedVariables false
set_option linter.unusedSimpArgs false
/-
  A flow in memory; a queue in a box: appended to behind, taken from in front.
-/
namespace Go.Proofs.Ytkjcnkkmhkcddaa
open Go.RowKit Go.Shelf
open Lim


namespace Lim
/-- 'append(q, x)' of one element of one cell, as a run -/
theorem run_append_q {P : Program} (w : World) (t ty e : TypeId) (i : TypeInfo) (z : Value) (bytes : Nat) (h1 : P.underlying t = some (.slice e)) (h2 : P.info? e = some i) (h3 : i.zero = some z) (h4 : i.size = 1) (h5 : i.bytes = bytes) (h6 : z.cells.size = 1)
    (base : Nat) (v : Value) (xs : List Value) (hown : ownsQ w base e v xs) (ad : Addr) (c : Nat) (u : Value) (hc : w.cell? ad = some u) (h1c : u.oneCell' = true)
    (b1 : xs.length + 1 ≤ maxLen) (b2 : (xs.length + 1) * bytes ≤ 140737488355328) (hbase : base ≤ w.heap.size) :
    ∃ v' w', (Builtin.append_ #[t, t] ty #[v, .slice (some ad) 1 c]).run P w = .ok v' w' ∧ ownsQ w' base e v' (xs ++ [u]) ∧ w.grownBy w' v.ownBlock ∧ (∀ k, v'.ownBlock = some k → v.ownBlock = some k ∨ w.heap.size ≤ k) := by
  have hnews : ∀ j v, ([u] : List Value)[j]? = some v → w.cell? (ad.add j) = some v := by
    intro j v hj
    match j with
    | 0 => simp at hj; subst hj; simpa [Addr.add] using hc
    | j + 1 => simp at hj
  rcases hown with ⟨rfl, rfl⟩ | ⟨g, off, cap, cur, rfl, hb, hgg, hlc, hcs, hcell⟩
  · obtain ⟨v', w', hrun, hown, hgr, -⟩ := run_append_own (P := P) w w.heap.size t ty e i z 1 bytes h1 h2 h3 h4 h5 h6 (by omega) (.slice none 0 0) 0 [] (World.ownsRow_nil _ _ _ _) ad 1 c [u] rfl hnews (by simpa using h1c) (by simpa using b1) (by simpa using b2) (Nat.le_refl _)
    exact ⟨v', w', hrun, ownsQ.of_owns (n := 0 + 1) (owns_mono hown hbase), hgr, fun k hk => .inr ((ownsQ.of_owns (n := 0 + 1) hown).lt k hk).1⟩
  · by_cases hr : xs.length + 1 ≤ cap
    · have hlt : off + xs.length < cur.size := by omega
      have hrun := run_append_room_cells (P := P) w t ty e i h1 h2 g off xs.length cap ad 1 c [u] (by rw [h4]; rfl) hnews (by simpa using h1c) hr (fun j hj => by
        obtain rfl : j = 0 := by simpa using hj
        simp [h4, World.cell?, hgg, hlt]) (fun j hj => by
        obtain rfl : j = 0 := by simpa using hj
        simp [h4, World.frozen?, hgg])
      have hset : w.setCells g (off + xs.length * i.size) [u] = w.setCell ⟨g, off + xs.length, none⟩ u := by simp [World.setCells, h4]
      rw [hset] at hrun
      refine ⟨_, _, hrun, .inr ⟨g, off, cap, cur.setIfInBounds (off + xs.length) u, by simp, hb, heap_setCell_self u hgg, by simpa using hr, by simpa using hcs, ?_⟩, grownBy_setCell _ _ _, fun k hk => .inl hk⟩
      intro j y hj
      rw [Array.getElem?_setIfInBounds]
      by_cases hjn : j < xs.length
      · rw [List.getElem?_append_left hjn] at hj
        rw [if_neg (by omega)]
        exact hcell j y hj
      · rw [List.getElem?_append_right (by omega)] at hj
        have hj0 : j - xs.length = 0 := by
          rcases Nat.eq_zero_or_pos (j - xs.length) with h | h
          · exact h
          · rw [List.getElem?_eq_none (by simp; omega)] at hj; cases hj
        have : j = xs.length := by omega
        subst this
        simp at hj
        rw [if_pos rfl, if_pos (by omega), hj]
    · obtain ⟨v', w', hrun, hown, hgr⟩ := run_append_arg_grows (P := P) w t ty e i z 1 bytes h1 h2 h3 h4 h5 h6 (by omega) ⟨g, off, none⟩ xs.length cap xs (by simp) (fun j u hj => by
        rw [Addr.add_lit]
        have := hcell j u hj
        simp [World.cell?, hgg, this]) ad 1 c [u] rfl hnews (by omega) b1 b2
      exact ⟨v', w', hrun, ownsQ.of_owns (n := xs.length + 1) (owns_mono hown hbase), ⟨hgr.os, hgr.tape, hgr.output, hgr.size, fun k hk _ => hgr.block k hk (by simp)⟩, fun k hk => .inr ((ownsQ.of_owns (n := xs.length + 1) hown).lt k hk).1⟩
theorem wpListIn_append_q {F : Fence} {n : Nat} {P : Program} (w : World) {ops : Array Oper} {rest : List Oper} {o : Oper} {a : Act} {Q : Exit → Act → World → Prop}
    (hg : o.guard = none) (s x : Operand) (t : TypeId) (hop : o.op = Op.call { callee := Callee.builtin Builtin.append, args := #[s, x], argTypes := #[t, t] })
    (e : TypeId) (i : TypeInfo) (z : Value) (bytes : Nat) (h1 : P.underlying t = some (.slice e)) (h2 : P.info? e = some i) (h3 : i.zero = some z) (h4 : i.size = 1) (h5 : i.bytes = bytes) (h6 : z.cells.size = 1)
    (base : Nat) (v : Value) (xs : List Value) (hs : a.eval s = v) (hown : ownsQ w base e v xs)
    (ad : Addr) (c : Nat) (u : Value) (hx : a.eval x = .slice (some ad) 1 c) (hc : w.cell? ad = some u) (h1c : u.oneCell' = true)
    (b1 : xs.length + 1 ≤ maxLen) (b2 : (xs.length + 1) * bytes ≤ 140737488355328) (hbase : base ≤ w.heap.size)
    (h : ∀ v' w', ownsQ w' base e v' (xs ++ [u]) → w.grownBy w' v.ownBlock → (∀ k, v'.ownBlock = some k → v.ownBlock = some k ∨ w.heap.size ≤ k) → wpListIn F n P ops Q rest (a.put o.dst v') w') :
    wpListIn F n P ops Q (o :: rest) a w := by
  refine wpListIn_plain hg fun K hK' => ?_
  obtain ⟨v', w', hrun, r1, r2, r3⟩ := run_append_q (P := P) w t o.type e i z bytes h1 h2 h3 h4 h5 h6 base v xs hown ad c u hc h1c b1 b2 hbase
  unfold Oper.wpIn
  refine ⟨?_, ?_⟩
  · simp [Oper.about, hop, resolve, Target.leads, Sem.run_pure]
  · rw [Oper.semAt_plain F _ _ (by rw [hop]; intro c hc'; cases hc')]
    simp [execOp, hop, resolve, invoke, builtin, hs, hx, hrun, Result.andThen]
    exact hK' _ _ (h v' w' r1 r2 r3)
end Lim
/-- one more behind: what is behind the append, and behind the store into the box -/
theorem StM.push {bs x : Nat} {q : List Nat} {W W1 : World} {v v' : Value} (hm : StM bs q W) (h1 : W.cell? ⟨bs, 0, none⟩ = some v) (hown : ownsQ W1 (bs + 1) 3 v' (ints (q.map Int.ofNat) ++ [.int .i64 x])) (hg : W.grownBy W1 v.ownBlock)
    (hnew : ∀ k, v'.ownBlock = some k → v.ownBlock = some k ∨ W.heap.size ≤ k) :
    W1.cell? ⟨bs, 0, none⟩ = some v ∧ W1.frozen? ⟨bs, 0, none⟩ = false ∧ StM bs (q ++ [x]) (W1.setCell ⟨bs, 0, none⟩ v') ∧ Sep (StT bs W) W (W1.setCell ⟨bs, 0, none⟩ v') ∧ ∀ k, StT bs (W1.setCell ⟨bs, 0, none⟩ v') k → StT bs W k ∨ W.heap.size ≤ k := by
  obtain ⟨u, h2, h3, h4⟩ := hm.ex
  rw [h1] at h2
  cases h2
  have hs := Sep.of_grown hg
  have hno : ¬ v.ownBlock = some bs := fun e => by have := (h4.lt bs e).1; omega
  have c1 := hs.cell h1 hno
  have c2 := hs.frozen h1 hno h3
  have c3 : (W1.setCell ⟨bs, 0, none⟩ v').cell? ⟨bs, 0, none⟩ = some v' := setCell_same _ _ c1
  refine ⟨c1, c2, ⟨v', c3, by rw [World.frozen?_setCell]; exact c2, ?_⟩, ?_, fun k hk => ?_⟩
  · have := hown.kept (grownBy_setCell W1 ⟨bs, 0, none⟩ v') (fun r e => by cases e; exact Nat.lt_succ_self _)
    simpa [ints] using this
  · exact (hs.mono (fun k hk => .inr ⟨v, h1, hk⟩)).trans ((Sep.set W1 bs 0 v').mono (fun k hk => .inl hk))
  · rcases hk with rfl | ⟨u, h5, h6⟩
    · exact .inl (.inl rfl)
    · rw [c3] at h5; cases h5
      rcases hnew k h6 with h7 | h7
      · exact .inl (.inr ⟨v, h1, h7⟩)
      · exact .inr h7
/-- a slice behind its first element -/
def popV (g off L c : Nat) : Value := if c = 1 then .slice (some ⟨g, off, none⟩) 0 0 else .slice (some ⟨g, off + 1, none⟩) L (c - 1)
theorem run_pop (g off L c : Nat) (hc : L + 1 ≤ c) (hL : L ≤ 100000) (w : World) : (Instr.sliceAt 22 (.slice (some ⟨g, off, none⟩) (L + 1) c) (some (.int .i64 1)) none none).run Try.prog w = .ok (popV g off L c) w := by
  by_cases h : c = 1
  · subst h
    obtain rfl : L = 0 := by omega
    simp [popV, go_sem]
  · have h2 : ¬ c - 1 = 0 := by omega
    simp [popV, go_sem, h]
    intro hh; omega
/-- the first one is taken away -/
theorem StM.pop {bs x : Nat} {q : List Nat} {W : World} (hm : StM bs (x :: q) W) : ∃ g off c, W.cell? ⟨bs, 0, none⟩ = some (.slice (some ⟨g, off, none⟩) (q.length + 1) c) ∧ W.frozen? ⟨bs, 0, none⟩ = false ∧ W.cell? ⟨g, off, none⟩ = some (.int .i64 x) ∧ q.length + 1 ≤ c ∧ bs < g ∧
    ∀ W', Sep (fun _ => False) W W' → StM bs q (W'.setCell ⟨bs, 0, none⟩ (popV g off q.length c)) ∧ ∀ k, StT bs (W'.setCell ⟨bs, 0, none⟩ (popV g off q.length c)) k → StT bs W k := by
  obtain ⟨v, h1, h2, h3⟩ := hm.ex
  rcases h3 with ⟨_, h0⟩ | ⟨g, off, cap, cur, rfl, hbg, hgg, hlc, hcs, hcell⟩
  · simp [ints] at h0
  · have hl : (ints ((x :: q).map Int.ofNat)).length = q.length + 1 := by simp [ints]
    rw [hl] at h1 hlc
    refine ⟨g, off, cap, h1, h2, ?_, hlc, by omega, fun W' hs => ?_⟩
    · have := hcell 0 (.int .i64 x) rfl
      simpa [World.cell?, hgg] using this
    · have c1 := hs.cell h1 (fun h => h)
      have c3 : (W'.setCell ⟨bs, 0, none⟩ (popV g off q.length cap)).cell? ⟨bs, 0, none⟩ = some (popV g off q.length cap) := setCell_same _ _ c1
      have hg2 : (W'.setCell ⟨bs, 0, none⟩ (popV g off q.length cap)).heap[g]? = some (.cells cur 3 (0, 0)) := by rw [heap_set_ne _ (show g ≠ bs by omega)]; exact hs.heap hgg (fun h => h)
      refine ⟨⟨_, c3, by rw [World.frozen?_setCell]; exact hs.frozen h1 (fun h => h) h2, ?_⟩, fun k hk => ?_⟩
      · by_cases hcap : cap = 1
        · subst hcap
          obtain rfl : q = [] := List.eq_nil_of_length_eq_zero (by omega)
          exact .inr ⟨g, off, 0, cur, by simp [popV, ints], hbg, hg2, by simp [ints], by omega, fun j u hj => by simp [ints] at hj⟩
        · refine .inr ⟨g, off + 1, cap - 1, cur, by simp [popV, ints, hcap], hbg, hg2, by simp [ints]; omega, by omega, fun j u hj => ?_⟩
          have := hcell (j + 1) u (by simpa [ints] using hj)
          rw [show off + 1 + j = off + (j + 1) by omega]; exact this
      · rcases hk with rfl | ⟨u, h5, h6⟩
        · exact .inl rfl
        · rw [c3] at h5; cases h5
          refine .inr ⟨_, h1, ?_⟩
          unfold popV at h6
          split at h6 <;> simpa [Value.ownBlock] using h6
/-! A flow. -/
/-- the cells of a flow in block bf -/
structure FlE (W : World) (B bf bm n wd c : Nat) (oa : Option Addr) (oc : Nat) (ev sv : Value) (os : List Int) (M : Nat → Bool) (Fr : Nat → Int) (R : Nat → Nat → Option Int) : Prop where
  lt : B ≤ bf ∧ B ≤ bm ∧ bf ≠ bm
  ld : LdAt W bf wd (.slice oa n oc) ev sv
  c4 : W.cell? ⟨bf, 4, none⟩ = some (.map (some bm)) ∧ W.frozen? ⟨bf, 4, none⟩ = false
  met : ∀ k, k < 100 → W.cell? ⟨bf, 5 + k, none⟩ = some (.bool (M k)) ∧ W.frozen? ⟨bf, 5 + k, none⟩ = false
  fr : ∀ k, k < 100 → W.cell? ⟨bf, 105 + k, none⟩ = some (.int .i64 (Fr k)) ∧ W.frozen? ⟨bf, 105 + k, none⟩ = false
  rm : MapS W bm c R
  row : RS B W (.slice oa n oc) n (ints os)
section
variable {W W' : World} {B bf bm n wd c : Nat} {oa : Option Addr} {oc : Nat} {ev sv : Value} {os : List Int} {M : Nat → Bool} {Fr : Nat → Int} {R : Nat → Nat → Option Int}
theorem FlE.bf_lt (h : FlE W B bf bm n wd c oa oc ev sv os M Fr R) : bf < W.heap.size := World.block_lt_of_cell? _ _ h.c4.1
theorem FlE.sep {T : Nat → Prop} (h : FlE W B bf bm n wd c oa oc ev sv os M Fr R) (hs : Sep T W W') (h1 : ¬ T bf) (h2 : ¬ T bm) (h3 : ∀ x, T x → B ≤ x) : FlE W' B bf bm n wd c oa oc ev sv os M Fr R := by
  have hB : B ≤ W.heap.size := by have := h.bf_lt; have := h.lt.1; omega
  exact ⟨h.lt, h.ld.sep hs h1, ⟨hs.cell h.c4.1 h1, hs.frozen h.c4.1 h1 h.c4.2⟩, fun k hk => ⟨hs.cell (h.met k hk).1 h1, hs.frozen (h.met k hk).1 h1 (h.met k hk).2⟩, fun k hk => ⟨hs.cell (h.fr k hk).1 h1, hs.frozen (h.fr k hk).1 h1 (h.fr k hk).2⟩, h.rm.sep hs h2, h.row.below (hs.below hB h3)⟩
theorem FlE.on (h : FlE W B bf bm n wd c oa oc ev sv os M Fr R) (hb : Below W.heap.size W W') : FlE W' B bf bm n wd c oa oc ev sv os M Fr R := h.sep (T := fun _ => False) (Sep.of_below hb) id id (fun _ h => h.elim)
theorem FlE.steady {B' : Nat} (h : FlE W B bf bm n wd c oa oc ev sv os M Fr R) (hs : Steady B' W W') (hm : MapS W' bm c R) : FlE W' B bf bm n wd c oa oc ev sv os M Fr R :=
  ⟨h.lt, ⟨hs.cell h.ld.f0, hs.cell h.ld.f1, hs.cell h.ld.f2, hs.cell h.ld.f3⟩, ⟨hs.cell h.c4.1, (hs.frozen h.c4.1).trans h.c4.2⟩, fun k hk => ⟨hs.cell (h.met k hk).1, (hs.frozen (h.met k hk).1).trans (h.met k hk).2⟩, fun k hk => ⟨hs.cell (h.fr k hk).1, (hs.frozen (h.fr k hk).1).trans (h.fr k hk).2⟩, hm, h.row.steady hs⟩
theorem FlE.setM (h : FlE W B bf bm n wd c oa oc ev sv os M Fr R) {p : Nat} (hp : p < 100) : FlE (W.setCell ⟨bf, 5 + p, none⟩ (.bool true)) B bf bm n wd c oa oc ev sv os (updB M p) Fr R := by
  have hB : B ≤ W.heap.size := by have := h.bf_lt; have := h.lt.1; omega
  have hs := Sep.set W bf (5 + p) (.bool true)
  have off : ∀ {j : Nat} {v : Value}, j ≠ 5 + p → W.cell? ⟨bf, j, none⟩ = some v → (W.setCell ⟨bf, 5 + p, none⟩ (.bool true)).cell? ⟨bf, j, none⟩ = some v := fun hj hc => by rw [setCell_off _ _ (Ne.symm hj)]; exact hc
  refine ⟨h.lt, ⟨off (by omega) h.ld.f0, off (by omega) h.ld.f1, off (by omega) h.ld.f2, off (by omega) h.ld.f3⟩, ⟨off (by omega) h.c4.1, by rw [World.frozen?_setCell]; exact h.c4.2⟩, fun k hk => ⟨?_, by rw [World.frozen?_setCell]; exact (h.met k hk).2⟩, fun k hk => ⟨off (by omega) (h.fr k hk).1, by rw [World.frozen?_setCell]; exact (h.fr k hk).2⟩, h.rm.sep hs (fun e => h.lt.2.2 e.symm), h.row.below (hs.below hB (fun x hx => by rw [hx]; exact h.lt.1))⟩
  by_cases e : k = p
  · subst e; rw [updB_same]; exact setCell_same _ _ (h.met k hk).1
  · rw [updB_ne _ e]; exact off (by omega) (h.met k hk).1
theorem FlE.setF (h : FlE W B bf bm n wd c oa oc ev sv os M Fr R) {p : Nat} (hp : p < 100) (v : Int) : FlE (W.setCell ⟨bf, 105 + p, none⟩ (.int .i64 v)) B bf bm n wd c oa oc ev sv os M (upd Fr p v) R := by
  have hB : B ≤ W.heap.size := by have := h.bf_lt; have := h.lt.1; omega
  have hs := Sep.set W bf (105 + p) (.int .i64 v)
  have off : ∀ {j : Nat} {u : Value}, j ≠ 105 + p → W.cell? ⟨bf, j, none⟩ = some u → (W.setCell ⟨bf, 105 + p, none⟩ (.int .i64 v)).cell? ⟨bf, j, none⟩ = some u := fun hj hc => by rw [setCell_off _ _ (Ne.symm hj)]; exact hc
  refine ⟨h.lt, ⟨off (by omega) h.ld.f0, off (by omega) h.ld.f1, off (by omega) h.ld.f2, off (by omega) h.ld.f3⟩, ⟨off (by omega) h.c4.1, by rw [World.frozen?_setCell]; exact h.c4.2⟩, fun k hk => ⟨off (by omega) (h.met k hk).1, by rw [World.frozen?_setCell]; exact (h.met k hk).2⟩, fun k hk => ⟨?_, by rw [World.frozen?_setCell]; exact (h.fr k hk).2⟩, h.rm.sep hs (fun e => h.lt.2.2 e.symm), h.row.below (hs.below hB (fun x hx => by rw [hx]; exact h.lt.1))⟩
  by_cases e : k = p
  · subst e; rw [upd_same]; exact setCell_same _ _ (h.fr k hk).1
  · rw [upd_ne _ _ e]; exact off (by omega) (h.fr k hk).1
theorem cells_behind {b o : Nat} {vs : List Value} {j : Nat} : ∀ {w : World}, o + vs.length ≤ j → (w.setCells b o vs).cell? ⟨b, j, none⟩ = w.cell? ⟨b, j, none⟩ := by
  induction vs generalizing o with
  | nil => intro w _; rfl
  | cons v vs ih => intro w h; simp only [List.length_cons] at h; exact (ih (o := o + 1) (by omega)).trans (setCell_off _ _ (by omega))
theorem frozen_cells : ∀ (vs : List Value) (b o : Nat) (w : World) (a : Addr), (w.setCells b o vs).frozen? a = w.frozen? a
  | [], _, _, _, _ => rfl
  | v :: vs, b, o, w, a => (frozen_cells vs b (o + 1) _ a).trans (World.frozen?_setCell ..)
theorem FlE.clear (h : FlE W B bf bm n wd c oa oc ev sv os M Fr R) : FlE (W.setCells bf 5 falses) B bf bm n wd c oa oc ev sv os (fun _ => false) Fr R := by
  have hB : B ≤ W.heap.size := by have := h.bf_lt; have := h.lt.1; omega
  have hs := sep_cells bf falses 5 W
  have hthr : W.there bf 5 falses.length := fun j hj => by
    rw [falses_length] at hj
    exact ⟨by rw [(h.met j hj).1]; rfl, (h.met j hj).2⟩
  have off : ∀ {j : Nat} {u : Value}, j < 5 → W.cell? ⟨bf, j, none⟩ = some u → (W.setCells bf 5 falses).cell? ⟨bf, j, none⟩ = some u := fun hj hc => by rw [cells_ahead hj]; exact hc
  exact ⟨h.lt, ⟨off (by omega) h.ld.f0, off (by omega) h.ld.f1, off (by omega) h.ld.f2, off (by omega) h.ld.f3⟩, ⟨off (by omega) h.c4.1, by rw [frozen_cells]; exact h.c4.2⟩, fun k hk => ⟨World.rangeAt_setCells_same _ _ _ _ hthr k (.bool false) (List.getElem?_replicate_of_lt hk), by rw [frozen_cells]; exact (h.met k hk).2⟩,
    fun k hk => ⟨by rw [cells_behind (by rw [falses_length]; omega)]; exact (h.fr k hk).1, by rw [frozen_cells]; exact (h.fr k hk).2⟩, h.rm.sep hs (fun e => h.lt.2.2 e.symm), h.row.below (hs.below hB (fun x hx => by rw [hx]; exact h.lt.1))⟩
end
end Go.Proofs.Ytkjcnkkmhkcddaa
/-
  The search for a way that families can go: what is kept, and how it begins.
-/
namespace Go.Proofs.Ytkjcnkkmhkcddaa
open Go.RowKit Go.Shelf
open Lim


/-- the marks' sources behind k plots -/
def fr1 (st : Nat → Bool) (k : Nat) (F0 : Nat → Int) : Nat → Int := fun x => if x < k ∧ st x = true then -1 else F0 x
theorem fr1_zero (st : Nat → Bool) (F0 : Nat → Int) : fr1 st 0 F0 = F0 := by funext x; unfold fr1; rw [if_neg (by omega)]
theorem fr1_add {st : Nat → Bool} {k : Nat} {F0 : Nat → Int} (h : st k = true) : upd (fr1 st k F0) k (-1) = fr1 st (k + 1) F0 := by
  funext x
  by_cases e : x = k
  · subst e; rw [upd_same]; unfold fr1; rw [if_pos ⟨Nat.lt_succ_self _, h⟩]
  · rw [upd_ne _ _ e]
    unfold fr1
    by_cases h2 : x < k ∧ st x = true
    · rw [if_pos h2, if_pos ⟨by omega, h2.2⟩]
    · rw [if_neg h2, if_neg (fun h3 => h2 ⟨by omega, h3.2⟩)]
theorem fr1_skip {st : Nat → Bool} {k : Nat} {F0 : Nat → Int} (h : st k = false) : fr1 st k F0 = fr1 st (k + 1) F0 := by
  funext x
  unfold fr1
  by_cases h2 : x < k ∧ st x = true
  · rw [if_pos h2, if_pos ⟨by omega, h2.2⟩]
  · rw [if_neg h2, if_neg (fun h3 => by
      by_cases e : x = k
      · rw [e, h] at h3; cases h3.2
      · exact h2 ⟨by omega, h3.2⟩)]
theorem DInv.begin {n : Nat} {ed : Nat → Nat → Prop} {St En : Nat → Prop} {st : Nat → Bool} {F0 : Nat → Int} (h : ∀ k, k < n → (st k = true ↔ St k)) (hE : ∀ k, St k → ¬ En k) :
    DInv n ed St En (met1 st n) (fr1 st n F0) (fun _ => 0) 1 (queue1 st n) := by
  have hm : ∀ k, met1 st n k = true → k < n ∧ st k = true := fun k hk => by simpa [met1] using hk
  have hq : ∀ k, met1 st n k = true → k ∈ queue1 st n := fun k hk => by
    obtain ⟨h1, h2⟩ := hm k hk
    simp [queue1, h1, h2]
  refine ⟨⟨fun k hk => (hm k hk).1, fun k hk hs => ?_, fun k hk => .inl ⟨?_, (h k (hm k hk).1).1 (hm k hk).2⟩, fun k _ => Nat.zero_lt_one, fun k hk => ?_⟩, fun k hk => hE k ((h k (hm k hk).1).1 (hm k hk).2), fun k hk hn => absurd (hq k hk) hn⟩
  · simp [met1, hk, (h k hk).2 hs]
  · unfold fr1; rw [if_pos (hm k hk)]
  · have : k < n ∧ st k = true := by simpa [queue1] using hk
    simp [met1, this.1, this.2]
theorem StA.sub {bs lo hi : Nat} {W W' : World} (h : StA bs lo hi W) (hsub : ∀ k, StT bs W' k → StT bs W k) (hb : bs < lo) : StA bs lo hi W' := fun v g hv hg => StT.apart h hb (hsub g (.inr ⟨v, hv, hg⟩))
theorem StM.sepA {T : Nat → Prop} {bs : Nat} {q : List Nat} {W W' : World} (h : StM bs q W) (hs : Sep T W W') (hT : ∀ k, StT bs W k → ¬ T k) : StM bs q W' := by
  obtain ⟨v, h1, h2, h3⟩ := h.ex
  have hb : ¬ T bs := hT bs (.inl rfl)
  exact ⟨v, hs.cell h1 hb, hs.frozen h1 hb h2, hs.owns h3 (fun k hk => hT k (.inr ⟨v, h1, hk⟩))⟩
/-- one can go from a to b -/
def edR (m : Mp) (R : Nat → Nat → Option Int) (a b : Nat) : Prop := nb m a b ∧ (R a b).getD 0 ≠ 0
/-- what reaches keeps -/
structure ReM (w : World) (B bf bm c : Nat) (m : Mp) (oa : Option Addr) (oc : Nat) (ev sv : Value) (R : Nat → Nat → Option Int) (q1 bs : Nat) (M : Nat → Bool) (Fr : Nat → Int) (q : List Nat) (W : World) : Prop where
  gb : w.grownBy W (some bf)
  lt : bf < w.heap.size ∧ bm < w.heap.size ∧ w.heap.size ≤ q1 ∧ q1 < bs
  c1 : W.cell? ⟨q1, 0, none⟩ = some (.pointer (some ⟨bf, 0, none⟩))
  fl : FlE W B bf bm m.n m.wd c oa oc ev sv m.os M Fr R
  st : StM bs q W
section
variable {w : World} {B bf bm c : Nat} {m : Mp} {oa : Option Addr} {oc : Nat} {ev sv : Value} {R : Nat → Nat → Option Int} {q1 bs : Nat} {M : Nat → Bool} {Fr : Nat → Int} {q : List Nat} {W W' : World}
theorem FlE.own {n wd : Nat} {os : List Int} {go oo p : Nat} (h : FlE W B bf bm n wd c (some ⟨go, oo, none⟩) oc ev sv os M Fr R) (hp : p < os.length) : W.cell? ⟨go, oo + p, none⟩ = some (.int .i64 (os.getD p 0)) := by
  obtain ⟨g, o, h1, h2⟩ := cell_of_RS h.row hp
  cases h1; exact h2
theorem ReM.sep {T : Nat → Prop} {q' : List Nat} (h : ReM w B bf bm c m oa oc ev sv R q1 bs M Fr q W) (hs : Sep T W W') (hT : ∀ x, T x → bs ≤ x) (hst : StM bs q' W') : ReM w B bf bm c m oa oc ev sv R q1 bs M Fr q' W' := by
  obtain ⟨l1, l2, l3, l4⟩ := h.lt
  have no : ∀ x, x < bs → ¬ T x := fun x hx h => by have := hT x h; omega
  have hB := h.fl.lt
  exact ⟨⟨hs.os.trans h.gb.os, hs.tape.trans h.gb.tape, hs.output.trans h.gb.output, Nat.le_trans h.gb.size hs.size, fun x h1 h2 => (hs.same x (Nat.lt_of_lt_of_le h1 h.gb.size) (no x (by omega))).trans (h.gb.block x h1 h2)⟩, h.lt, hs.cell h.c1 (no _ (by omega)), h.fl.sep hs (no _ (by omega)) (no _ (by omega)) (fun x hx => by have := hT x hx; omega), hst⟩
theorem ReM.below (h : ReM w B bf bm c m oa oc ev sv R q1 bs M Fr q W) (hb : Below W.heap.size W W') : ReM w B bf bm c m oa oc ev sv R q1 bs M Fr q W' := h.sep (T := fun _ => False) (Sep.of_below hb) (fun _ h => h.elim) (h.st.below hb)
theorem ReM.gset (h : ReM w B bf bm c m oa oc ev sv R q1 bs M Fr q W) (j : Nat) (v : Value) : w.grownBy (W.setCell ⟨bf, j, none⟩ v) (some bf) :=
  ⟨h.gb.os, h.gb.tape, h.gb.output, by have := h.gb.size; simpa [World.setCell] using this, fun k h1 h2 => (heap_set_ne v (fun e => h2 (by rw [e]))).trans (h.gb.block k h1 h2)⟩
theorem ReM.markM (h : ReM w B bf bm c m oa oc ev sv R q1 bs M Fr q W) {p : Nat} (hp : p < 100) : ReM w B bf bm c m oa oc ev sv R q1 bs (updB M p) Fr q (W.setCell ⟨bf, 5 + p, none⟩ (.bool true)) :=
  ⟨h.gset _ _, h.lt, (setCell_far _ _ (by have := h.lt; omega)).trans h.c1, h.fl.setM hp, h.st.sep (Sep.set W bf (5 + p) _) (fun k hk => by rw [hk]; have := h.lt; omega)⟩
theorem ReM.markF (h : ReM w B bf bm c m oa oc ev sv R q1 bs M Fr q W) {p : Nat} (hp : p < 100) (v : Int) : ReM w B bf bm c m oa oc ev sv R q1 bs M (upd Fr p v) q (W.setCell ⟨bf, 105 + p, none⟩ (.int .i64 v)) :=
  ⟨h.gset _ _, h.lt, (setCell_far _ _ (by have := h.lt; omega)).trans h.c1, h.fl.setF hp v, h.st.sep (Sep.set W bf (105 + p) _) (fun k hk => by rw [hk]; have := h.lt; omega)⟩
theorem ReM.steady {B' : Nat} (h : ReM w B bf bm c m oa oc ev sv R q1 bs M Fr q W) (hs : Steady B' W W') (hB : bs ≤ B') : ReM w B bf bm c m oa oc ev sv R q1 bs M Fr q W' := by
  obtain ⟨l1, l2, l3, l4⟩ := h.lt
  have keep : ∀ x, x < w.heap.size → W'.heap[x]? = W.heap[x]? := fun x hx => by
    have hlt : x < W.heap.size := Nat.lt_of_lt_of_le hx h.gb.size
    rw [hs.same x _ (Array.getElem?_eq_getElem hlt) (.inl (by omega)), Array.getElem?_eq_getElem hlt]
  exact ⟨⟨hs.os.trans h.gb.os, hs.tape.trans h.gb.tape, hs.output.trans h.gb.output, Nat.le_trans h.gb.size hs.size, fun x h1 h2 => (keep x h1).trans (h.gb.block x h1 h2)⟩, h.lt, hs.cell h.c1, h.fl.steady hs (h.fl.rm.same (keep bm l2)), h.st.steady hs⟩
end
end Go.Proofs.Ytkjcnkkmhkcddaa
