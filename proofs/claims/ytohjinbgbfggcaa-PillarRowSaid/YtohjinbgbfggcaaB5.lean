/-
  Parts of the proof, in the order in which they build: QiP, QiQ, QiR.
-/
import Derived.Test.YtohjinbgbfggcaaC1
import Derived.Test.YtohjinbgbfggcaaB1
import Derived.Test.YtohjinbgbfggcaaA2
import Derived.Test.YtohjinbgbfggcaaA5
set_option linter.unusedVariables false
set_option linter.unusedSimpArgs false
/-
  The sum of distances, end by end: the contract of sum.
-/
namespace Go.Proofs.Ytohjinbgbfggcaa
open Go.RowKit Go.Shelf
open Lim

theorem sumLo_succ (l : List (Int × Int)) (k : Nat) (h : k < l.length) : sumLo (l.take (k + 1)) = sumLo (l.take k) + l[k].1 := by
  unfold sumLo
  rw [List.take_succ_eq_append_getElem h, List.map_append, List.foldl_append]; rfl
theorem sumHi_succ (l : List (Int × Int)) (k : Nat) (h : k < l.length) : sumHi (l.take (k + 1)) = sumHi (l.take k) + l[k].2 := by
  unfold sumHi
  rw [List.take_succ_eq_append_getElem h, List.map_append, List.foldl_append]; rfl
/-- spans of which sums can be reckoned -/
def SpOk (l : List (Int × Int)) : Prop := ∀ s ∈ l, 0 ≤ s.1 ∧ s.1 ≤ 1000000 ∧ 0 ≤ s.2 ∧ s.2 ≤ 1000000
theorem sum_bd {l : List (Int × Int)} (h : SpOk l) : ∀ k, k ≤ l.length → (0 ≤ sumLo (l.take k) ∧ sumLo (l.take k) ≤ 1000000 * k) ∧ (0 ≤ sumHi (l.take k) ∧ sumHi (l.take k) ≤ 1000000 * k)
  | 0, _ => by simp [sumLo, sumHi]
  | k + 1, hk => by
    have ih := sum_bd h k (by omega)
    have hs := h _ (List.getElem_mem (show k < l.length by omega))
    rw [sumLo_succ l k (by omega), sumHi_succ l k (by omega)]
    push_cast
    omega
/-- what lies in memory while sum runs -/
structure SuM (w : World) (q : Nat) (x y : Int) (W : World) : Prop where
  be : Below w.heap.size w W
  ge : w.heap.size ≤ q
  r0 : W.cell? ⟨q, 0, none⟩ = some (.int .i64 0)
  r1 : W.cell? ⟨q, 1, none⟩ = some (.int .i64 0)
  c0 : W.cell? ⟨q + 1, 0, none⟩ = some (.int .i64 x)
  c1 : W.cell? ⟨q + 1, 1, none⟩ = some (.int .i64 y)
  f : ∀ b, b = q ∨ b = q + 1 → ∀ j, W.frozen? ⟨b, j, none⟩ = false
  hp : ∃ cs : Array Value, W.heap[q]? = some (.cells cs 28 (0, 0)) ∧ cs.size = 2
theorem SuM.put {w : World} {q : Nat} {x y : Int} {W W1 : World} (h : SuM w q x y W) (hb : Below W.heap.size W W1) (x' y' : Int) : SuM w q x' y' ((W1.setCell ⟨q + 1, 0, none⟩ (.int .i64 x')).setCell ⟨q + 1, 1, none⟩ (.int .i64 y')) := by
  have l0 := World.block_lt_of_cell? _ _ h.r0
  have l1 := World.block_lt_of_cell? _ _ h.c0
  have hge := h.ge
  have off : ∀ {j : Nat} {u : Value}, W1.cell? ⟨q, j, none⟩ = some u → ((W1.setCell ⟨q + 1, 0, none⟩ (.int .i64 x')).setCell ⟨q + 1, 1, none⟩ (.int .i64 y')).cell? ⟨q, j, none⟩ = some u := fun {j u} hc => by rw [setCell_farP _ _ (by omega), setCell_farP _ _ (by omega)]; exact hc
  refine ⟨((h.be.trans (hb.mono h.be.size)).setCell (p := ⟨q + 1, 0, none⟩) (by show w.heap.size ≤ q + 1; omega) _).setCell (p := ⟨q + 1, 1, none⟩) (by show w.heap.size ≤ q + 1; omega) _, hge, off (hb.on h.r0), off (hb.on h.r1), ?_, ?_, fun b hbq j => ?_, ?_⟩
  · rw [World.cell?_setCell_other _ _ _ _ (fun e => by have := congrArg Addr.off e; simp at this)]
    exact World.cell?_setCell_same' _ _ _ (by rw [hb.on h.c0]; rfl)
  · exact World.cell?_setCell_same' _ _ _ (by rw [World.cell?_setCell_other _ _ _ _ (fun e => by have := congrArg Addr.off e; simp at this), hb.on h.c1]; rfl)
  · rw [World.frozen?_setCell, World.frozen?_setCell, hb.frozen (p := ⟨b, j, none⟩) (by rcases hbq with rfl | rfl; exact l0; exact l1)]
    exact h.f b hbq j
  · obtain ⟨cs, hp, hc⟩ := h.hp
    refine ⟨cs, ?_, hc⟩
    rw [Below.heap_setCell _ _ _ _ (by show q ≠ q + 1; omega), Below.heap_setCell _ _ _ _ (by show q ≠ q + 1; omega)]
    exact (hb.block q l0).trans hp
theorem SuM.grow {w : World} {q : Nat} {x y : Int} {W W' : World} (h : SuM w q x y W) (hb : Below W.heap.size W W') : SuM w q x y W' := by
  have l0 := World.block_lt_of_cell? _ _ h.r0
  have l1 := World.block_lt_of_cell? _ _ h.c0
  refine ⟨h.be.trans (hb.mono h.be.size), h.ge, hb.on h.r0, hb.on h.r1, hb.on h.c0, hb.on h.c1, fun b hbq j => ?_, ?_⟩
  · rw [hb.frozen (p := ⟨b, j, none⟩) (by rcases hbq with rfl | rfl; exact l0; exact l1)]
    exact h.f b hbq j
  · obtain ⟨cs, hp, hc⟩ := h.hp
    exact ⟨cs, (hb.block q l0).trans hp, hc⟩
theorem SuM.done {w : World} {q : Nat} {x y : Int} {W : World} (h : SuM w q x y W) (u v : Value) : ((W.setCell ⟨q, 0, none⟩ u).setCell ⟨q, 1, none⟩ v).heap[q]? = some (.cells #[u, v] 28 (0, 0)) := by
  obtain ⟨cs, hp, hc⟩ := h.hp
  obtain ⟨l⟩ := cs
  match l, hc with
  | [a, b], _ =>
    have h1 := heap_setCell_same W q 0 _ 28 u hp
    have h2 := heap_setCell_same _ q 1 _ 28 v h1
    rw [h2]
    simp
set_option maxRecDepth 20000 in
set_option maxHeartbeats 1000000 in
theorem sum_any {B : Nat} {v : Value} {l : List (Int × Int)} {w : World} (hv : RS B w v l.length (spans l)) (hB : B ≤ w.heap.size) (hn : l.length ≤ 1000) (hl : SpOk l) :
    Calls Try.prog 87 #[v] w fun e w' => e = .returned (.agg #[.int .i64 (sumLo l), .int .i64 (sumHi l)]) ∧ Below w.heap.size w w' := by
  obtain ⟨a, c, rfl, ha⟩ := hv
  obtain ⟨n, hnl⟩ : ∃ n, n = l.length := ⟨_, rfl⟩
  rw [← hnl]
  rw [← hnl] at hn
  have HNL := Lib.hid hnl
  have HA := Lib.hid (And.intro ha (And.intro hB hl))
  clear ha hB hl hnl
  go_enter Try.func87, Try.ntmps87
  go_wp2_with fail
  have M0 : Hid (SuM w w.heap.size 0 0 ((w.alloc (.cells #[.int .i64 0, .int .i64 0] 28)).alloc (.cells #[.int .i64 0, .int .i64 0] 28))) := Lib.hid (by
    have b0 : Below w.heap.size w (w.alloc (.cells #[.int .i64 0, .int .i64 0] 28)) := (Below.refl _ w).alloc (Nat.le_refl _) _
    have b1 : Below (w.alloc (.cells #[.int .i64 0, .int .i64 0] 28)).heap.size (w.alloc (.cells #[.int .i64 0, .int .i64 0] 28)) ((w.alloc (.cells #[.int .i64 0, .int .i64 0] 28)).alloc (.cells #[.int .i64 0, .int .i64 0] 28)) := (Below.refl _ _).alloc (Nat.le_refl _) _
    refine ⟨b0.trans (b1.mono b0.size), Nat.le_refl _, ?_, ?_, ?_, ?_, fun b hb j => ?_, ⟨_, (b1.block _ (by simp)).trans (heap_alloc_newP w _), rfl⟩⟩
    · simp [go_sem]
    · simp [go_sem]
    · simp [go_sem]
    · simp [go_sem]
    · rcases hb with rfl | rfl <;> simp [go_sem])
  obtain ⟨q, hq⟩ : ∃ q, q = w.heap.size := ⟨_, rfl⟩
  rw [← hq] at M0 ⊢
  clear hq
  generalize (w.alloc (.cells #[.int .i64 0, .int .i64 0] 28)).alloc (.cells #[.int .i64 0, .int .i64 0] 28) = w1 at M0 ⊢
  go_loopw [8] (fun kv wr => ∃ k : Nat, k ≤ n ∧ kv = .int .i64 k ∧ Hid (SuM w q (sumLo (l.take k)) (sumHi (l.take k)) wr)) (fun kv _ => n - (intOf kv).toNat)
  case atStart => exact ⟨0, Nat.zero_le _, by go_num, M0⟩
  case round =>
    clear M0
    obtain ⟨k, hkn, rfl, hM⟩ := hrel
    by_cases hlt : k < n
    · have g1 : decide ((k : Int) < n) = true := decide_eq_true (by omega)
      have hkl : k < l.length := by have := HNL.out; omega
      obtain ⟨gb, go, rfl, hgb, hgc⟩ := HA.out.1 (by intro h; have := congrArg List.length h; rw [spans_length, List.length_nil] at this; omega)
      have cg1 := cell_below (hM.out.be.mono HA.out.2.1) (hgc (k * 2) _ (spans_lo l k hkl)) hgb
      have cg2 := cell_below (hM.out.be.mono HA.out.2.1) (hgc (k * 2 + 1) _ (spans_hi l k hkl)) hgb
      rw [← Nat.add_assoc] at cg2
      obtain ⟨x, hx⟩ : ∃ x, x = l[k].1 := ⟨_, rfl⟩
      obtain ⟨y, hy⟩ : ∃ y, y = l[k].2 := ⟨_, rfl⟩
      obtain ⟨s1, hs1⟩ : ∃ x, x = sumLo (l.take k) := ⟨_, rfl⟩
      obtain ⟨s2, hs2⟩ : ∃ x, x = sumHi (l.take k) := ⟨_, rfl⟩
      have bx := HA.out.2.2 _ (List.getElem_mem hkl)
      have bs := sum_bd HA.out.2.2 k (by omega)
      rw [← hx] at cg1
      rw [← hy] at cg2
      rw [← hx, ← hy] at bx
      rw [← hs1, ← hs2] at bs
      have c0 := hM.out.c0
      have c1 := hM.out.c1
      rw [← hs1] at c0
      rw [← hs2] at c1
      have f1 := hM.out.f (q + 1) (.inr rfl) 0
      have f2 := hM.out.f (q + 1) (.inr rfl) 1
      have w1e : IntKind.i64.wrap (s1 + x) = s1 + x := IntWalk.i64_in _ (by omega)
      have w2e : IntKind.i64.wrap (s2 + y) = s2 + y := IntWalk.i64_in _ (by omega)
      have HS : Hid (sumLo (l.take (k + 1)) = s1 + x ∧ sumHi (l.take (k + 1)) = s2 + y) := Lib.hid ⟨by rw [sumLo_succ l k hkl, hs1, hx], by rw [sumHi_succ l k hkl, hs2, hy]⟩
      have hb : Below wr.heap.size wr (wr.alloc (.cells #[.int .i64 x, .int .i64 y] 28)) := (Below.refl _ wr).alloc (Nat.le_refl _) _
      have hlt1 := World.block_lt_of_cell? _ _ c0
      have e0 := hb.on c0
      have e1 := hb.on c1
      have e2 := (hb.frozen (p := ⟨q + 1, 0, none⟩) hlt1).trans f1
      have e3 := (hb.frozen (p := ⟨q + 1, 1, none⟩) hlt1).trans f2
      have e4 : ((wr.alloc (.cells #[.int .i64 x, .int .i64 y] 28)).setCell ⟨q + 1, 0, none⟩ (.int .i64 (s1 + x))).cell? ⟨q + 1, 1, none⟩ = some (.int .i64 s2) := by rw [World.cell?_setCell_other _ _ _ _ (fun e => by have := congrArg Addr.off e; simp at this)]; exact e1
      have HMB := Lib.hid ((hM.out.put (Below.refl _ wr) (s1 + x) (s2 + y)).grow ((Below.refl _ _).alloc (Nat.le_refl _) (.cells #[.int .i64 x, .int .i64 y] 28)))
      clear hx hy hs1 hs2 bs bx hgc hb
      go_wp2_with fail
      exact ⟨⟨k + 1, by omega, by go_num, by rw [HS.out.1, HS.out.2]; exact HMB⟩, by simp [intOf]; omega⟩
    · obtain rfl : k = n := by omega
      have g1 : decide ((k : Int) < k) = false := by simp
      have c0 := hM.out.c0
      have c1 := hM.out.c1
      have HS : Hid (sumLo (l.take k) = sumLo l ∧ sumHi (l.take k) = sumHi l) := Lib.hid (by rw [HNL.out, List.take_length]; exact ⟨rfl, rfl⟩)
      rw [HS.out.1] at c0
      rw [HS.out.2] at c1
      have r0 := hM.out.r0
      have r1 := hM.out.r1
      have f1 := hM.out.f q (.inl rfl) 0
      have f2 := hM.out.f q (.inl rfl) 1
      have e4 : (wr.setCell ⟨q, 0, none⟩ (.int .i64 (sumLo l))).cell? ⟨q, 1, none⟩ = some (.int .i64 0) := by rw [World.cell?_setCell_other _ _ _ _ (fun e => by have := congrArg Addr.off e; simp at this)]; exact r1
      go_wp2_with fail
      exact bodyPost_ret (results_cell_row rfl _ _ q _ _ (0, 0) _ (by rfl) (hM.out.done _ _) Try.underlying28 (by rfl) (by kernel_rfl)) rfl ⟨rfl, (hM.out.be.setCell (p := ⟨q, 0, none⟩) hM.out.ge _).setCell (p := ⟨q, 1, none⟩) hM.out.ge _⟩
end Go.Proofs.Ytohjinbgbfggcaa
/-
  Whether the distances between two pillars can be a gap: the contract of fits.
-/
namespace Go.Proofs.Ytohjinbgbfggcaa
open Go.RowKit Go.Shelf
open Lim

/-- spans in order, of which sums can be reckoned -/
def SpR (l : List (Int × Int)) : Prop := ∀ s ∈ l, 0 ≤ s.1 ∧ s.1 ≤ s.2 ∧ s.2 ≤ 1000000
theorem SpR.ok {l : List (Int × Int)} (h : SpR l) : SpOk l := fun s hs => by have := h s hs; omega
theorem SpR.sum {l : List (Int × Int)} (h : SpR l) : ∀ k, k ≤ l.length → sumLo (l.take k) ≤ sumHi (l.take k)
  | 0, _ => by simp [sumLo, sumHi]
  | k + 1, hk => by
    have ih := SpR.sum h k (by omega)
    have hs := h _ (List.getElem_mem (show k < l.length by omega))
    rw [sumLo_succ l k (by omega), sumHi_succ l k (by omega)]
    omega
theorem between_mem {l : List (Int × Int)} {a b : Nat} {s : Int × Int} (h : s ∈ between l a b) : s ∈ l := List.mem_of_mem_take (List.mem_of_mem_drop h)
theorem between_len (l : List (Int × Int)) {a b : Nat} (hb : b ≤ l.length) : (between l a b).length = b - a := by unfold between; rw [List.length_drop, List.length_take]; omega
theorem spans_between (l : List (Int × Int)) {a b : Nat} (hb : b ≤ l.length) (j : Nat) (u : Value) (h : (spans (between l a b))[j]? = some u) : (spans l)[a * 2 + j]? = some u := by
  have hj : j < (spans (between l a b)).length := (List.getElem?_eq_some_iff.1 h).1
  rw [spans_length, between_len l hb] at hj
  obtain ⟨i, hi⟩ : ∃ i, j = i * 2 ∨ j = i * 2 + 1 := ⟨j / 2, by omega⟩
  have hib : i < (between l a b).length := by rw [between_len l hb]; omega
  have e : (between l a b)[i] = l[a + i]'(by omega) := by
    simp [between]
  rcases hi with rfl | rfl
  · rw [spans_lo _ i hib, e] at h
    rw [← h, show a * 2 + i * 2 = (a + i) * 2 by omega, spans_lo l (a + i) (by omega)]
  · rw [spans_hi _ i hib, e] at h
    rw [← h, show a * 2 + (i * 2 + 1) = (a + i) * 2 + 1 by omega, spans_hi l (a + i) (by omega)]
set_option maxRecDepth 20000 in
set_option maxHeartbeats 1000000 in
theorem fits_any {B a b n c gb go : Nat} {glo ghi : Int} {l : List (Int × Int)} {w : World} (hv : RS B w (.slice (some ⟨gb, go, none⟩) n c) n (spans l)) (hB : B ≤ w.heap.size) (hn : n = l.length) (hc : n ≤ c) (h4 : n ≤ 1000) (hl : SpR l) (hab : a < b) (hb : b ≤ n) (hg : glo ≤ ghi ∧ -100000000 ≤ glo ∧ ghi ≤ 100000000) :
    Calls Try.prog 81 #[.agg #[.slice (some ⟨gb, go, none⟩) n c], .int .i64 a, .int .i64 b, .agg #[.int .i64 glo, .int .i64 ghi]] w fun e w' => e = .returned (.bool (fitsB l a b (glo, ghi))) ∧ Below w.heap.size w w' := by
  obtain ⟨s1, hs1⟩ : ∃ x, x = sumLo (between l a b) := ⟨_, rfl⟩
  obtain ⟨s2, hs2⟩ : ∃ x, x = sumHi (between l a b) := ⟨_, rfl⟩
  have hbl : b ≤ l.length := by omega
  have hS : SpR (between l a b) := fun s hs => hl s (between_mem hs)
  have hlen := between_len l (a := a) hbl
  have H1 := hS.sum (b - a) (by omega)
  have H2 := sum_bd hS.ok (b - a) (by omega)
  rw [show (between l a b).take (b - a) = between l a b from List.take_of_length_le (by omega), ← hs1, ← hs2] at H1 H2
  have HSU : Hid (∀ W, Below w.heap.size w W → Calls Try.prog 87 #[.slice (some ⟨gb, go + a * 2, none⟩) (b - a) (c - a)] W fun e w' => e = .returned (.agg #[.int .i64 s1, .int .i64 s2]) ∧ Below W.heap.size W w') := Lib.hid fun W hW => by
    rw [hs1, hs2]
    have hr : RS B W (.slice (some ⟨gb, go + a * 2, none⟩) (between l a b).length (c - a)) (between l a b).length (spans (between l a b)) := by
      obtain ⟨a2, c2, e2, h2⟩ := hv
      cases e2
      refine ⟨_, _, rfl, fun _ => ⟨gb, go + a * 2, rfl, ?_⟩⟩
      obtain ⟨g3, o3, e3, h3, h5⟩ := h2 (by intro h; have := congrArg List.length h; rw [spans_length, List.length_nil] at this; omega)
      cases e3
      refine ⟨h3, fun j u hj => ?_⟩
      have h6 := h5 _ _ (spans_between l hbl j u hj)
      rw [Nat.add_assoc]
      exact cell_below (hW.mono hB) h6 h3
    have h := sum_any hr (Nat.le_trans hB hW.size) (by omega) hS.ok
    rw [hlen] at h
    exact h
  obtain ⟨r, hr⟩ : ∃ r, r = fitsB l a b (glo, ghi) := ⟨_, rfl⟩
  have HRR : Hid (r = (decide (s1 ≤ ghi) && decide (glo ≤ s2))) := Lib.hid (by rw [hr, fitsB, hs1, hs2])
  rw [← hr]
  have H12 := Lib.hid (And.intro H1 H2)
  have hbc : b ≤ c := by omega
  have hac : ¬ c = a := by omega
  clear hs1 hs2 hr hv hB hn hc hl hb hbl hS hlen H1 H2
  go_enter Try.func81, Try.ntmps81
  go_wp2_with fail
  have hb1 : Below w.heap.size w ((w.alloc (.cells #[.slice (some ⟨gb, go, none⟩) n c] 87)).alloc (.cells #[.int .i64 glo, .int .i64 ghi] 28)) := ((Below.refl _ w).alloc (Nat.le_refl _) _).alloc (by simp) _
  have k0 : ((w.alloc (.cells #[.slice (some ⟨gb, go, none⟩) n c] 87)).alloc (.cells #[.int .i64 glo, .int .i64 ghi] 28)).cell? ⟨w.heap.size + 1, 0, none⟩ = some (.int .i64 glo) := by simp [go_sem]
  have k1 : ((w.alloc (.cells #[.slice (some ⟨gb, go, none⟩) n c] 87)).alloc (.cells #[.int .i64 glo, .int .i64 ghi] 28)).cell? ⟨w.heap.size + 1, 1, none⟩ = some (.int .i64 ghi) := by simp [go_sem]
  generalize (w.alloc (.cells #[.slice (some ⟨gb, go, none⟩) n c] 87)).alloc (.cells #[.int .i64 glo, .int .i64 ghi] 28) = w1 at hb1 k0 k1 ⊢
  refine (HSU.out w1 hb1).mono ?_
  rintro e w2 ⟨rfl, hb2⟩
  have c0 := hb2.on k0
  have c1 := hb2.on k1
  have HB2 : Hid (Below w.heap.size w w2) := Lib.hid (hb1.trans (hb2.mono hb1.size))
  obtain ⟨q7, hq7⟩ : ∃ q, q = w.heap.size + 1 := ⟨_, rfl⟩
  rw [← hq7] at c0 c1 ⊢
  obtain ⟨mx, hmx⟩ : ∃ z, z = max s1 glo := ⟨_, rfl⟩
  obtain ⟨mn, hmn⟩ : ∃ z, z = min s2 ghi := ⟨_, rfl⟩
  obtain ⟨m2, hm2⟩ : ∃ z, z = max mx mn := ⟨_, rfl⟩
  have HMM := Lib.hid (And.intro hmx (And.intro hmn (And.intro hm2 hg)))
  have hmx' := hmx.symm
  have hmn' := hmn.symm
  have hm2' := hm2.symm
  have d0 := cell_al (.cells #[.int .i64 s1, .int .i64 s2] 28) c0
  have d1 := cell_al (.cells #[.int .i64 s1, .int .i64 s2] 28) c1
  clear hmx hmn hm2 hb1 hb2 k0 k1 hq7 HSU hg
  have HBX : Hid (Below w.heap.size w ((w2.alloc (.cells #[.int .i64 s1, .int .i64 s2] 28)).alloc (.cells #[.int .i64 mx, .int .i64 mn] 28))) := Lib.hid ((HB2.out.alloc HB2.out.size _).alloc (by have := HB2.out.size; simp; omega) _)
  by_cases hcs : mx ≤ mn
  · have HR : Hid (r = true) := Lib.hid (by
      have := HMM.out; have := H12.out
      rw [HRR.out, decide_eq_true (show s1 ≤ ghi by omega), decide_eq_true (show glo ≤ s2 by omega)]; rfl)
    have hee : mn = m2 := by have := HMM.out; omega
    clear hcs
    go_wp2_with fail
    go_ret
    exact ⟨by rw [HR.out]; rfl, by first | exact HBX.out | (rw [← hee]; exact HBX.out)⟩
  · have HR : Hid (r = false) := Lib.hid (by
      have := HMM.out; have := H12.out
      rw [HRR.out]
      by_cases e : s1 ≤ ghi
      · rw [decide_eq_false (show ¬ glo ≤ s2 by omega), Bool.and_false]
      · rw [decide_eq_false e, Bool.false_and])
    have hee : ¬ mn = m2 := by have := HMM.out; omega
    clear hcs
    go_wp2_with fail
    go_ret
    exact ⟨by rw [HR.out]; rfl, HBX.out⟩
end Go.Proofs.Ytohjinbgbfggcaa
/-
  The error of a roll and finds: the contract of asked.
-/
namespace Go.Proofs.Ytohjinbgbfggcaa
open Go.RowKit Go.Shelf
open Lim

set_option maxHeartbeats 400000 in
theorem asked1_any (x y : Int) (w : World) : Calls Try.prog 79 #[.agg #[.int .i64 x, .int .i64 y]] w fun e w' => e = .returned (.bool (rightS (x, y) 1 20000)) ∧ Below w.heap.size w w' := by
  obtain ⟨z, hz⟩ : ∃ z, rightS (x, y) 1 20000 = z := ⟨_, rfl⟩
  rw [hz]
  have HZ := Lib.hid hz
  clear hz
  go_enter Try.func79, Try.ntmps79
  go_wp2_with fail
  refine (right_any _ _ _ _ _).mono ?_
  rintro e w' ⟨rfl, hb⟩
  rw [HZ.out]
  have HB := Lib.hid (((Below.refl _ w).alloc (Nat.le_refl _) (.cells #[.int .i64 x, .int .i64 y] 28)).trans (hb.mono (by simp)))
  clear hb
  go_wp2
  go_ret
  exact ⟨rfl, HB.out⟩
set_option maxHeartbeats 400000 in
theorem asked2_any {n ac q : Nat} {a : Option Addr} {x : Int} {w : World} (hc : w.cell? ⟨q, 0, none⟩ = some (.slice a n ac)) :
    Calls Try.prog 80 #[.int .i64 x, .pointer (some ⟨q, 0, none⟩)] w fun e w' => e = .returned (.bool (inR x (-1) (n : Int))) ∧ Below w.heap.size w w' := by
  obtain ⟨z, hz⟩ : ∃ z, inR x (-1) (n : Int) = z := ⟨_, rfl⟩
  rw [hz]
  have HZ := Lib.hid hz
  clear hz
  go_enter Try.func80, Try.ntmps80
  go_wp2_with fail
  refine (in_any _ _ _ _).mono ?_
  rintro e w' ⟨rfl, rfl⟩
  rw [HZ.out]
  go_wp2
  go_ret
  exact ⟨rfl, Below.refl _ _⟩
theorem any_not {α : Type} (l : List α) (p : α → Bool) : (l.any fun x => !p x) = !(l.all p) := by
  induction l with
  | nil => rfl
  | cons a l ih => simp only [List.any_cons, List.all_cons, ih, Bool.not_and]
theorem wrongS_all (l : List (Int × Int)) : Rd.wrongS l = !(l.all fun s => rightS s 1 20000) := any_not _ _
set_option maxRecDepth 20000 in
set_option maxHeartbeats 2000000 in
theorem asked_any {B : Nat} {d : Rd} {rv fv mv : Value} {w : World} (hB : B ≤ w.heap.size) (hr : RS B w rv d.r.length (spans d.r)) (hf : RS B w fv d.f.length (spans d.f)) (hm : RS B w mv d.m.length (ints d.m)) :
    Calls Try.prog 59 #[.agg #[rv], .agg #[fv, mv]] w fun e w' => e = .returned (.int .i64 d.err) ∧ Below w.heap.size w w' := by
  have HR := Lib.hid (And.intro hB (And.intro hr (And.intro hf hm)))
  obtain ⟨ra, rc, rfl, -⟩ := hr
  obtain ⟨fa, fc, rfl, -⟩ := hf
  obtain ⟨ma, mc, rfl, -⟩ := hm
  obtain ⟨rl, hrl⟩ : ∃ x, x = d.r.length := ⟨_, rfl⟩
  obtain ⟨fl, hfl⟩ : ∃ x, x = d.f.length := ⟨_, rfl⟩
  obtain ⟨ml, hml⟩ : ∃ x, x = d.m.length := ⟨_, rfl⟩
  have HL := Lib.hid (And.intro hrl (And.intro hfl hml))
  obtain ⟨er, her⟩ : ∃ x, x = d.err := ⟨_, rfl⟩
  have HER := Lib.hid her
  rw [← hrl, ← hfl, ← hml] at HR
  rw [← hrl, ← hfl, ← hml, ← her]
  have HM : Hid (Below w.heap.size w ((w.alloc (.cells #[.slice ra rl rc] 87)).alloc (.cells #[.slice fa fl fc, .slice ma ml mc] 90)) ∧ ((w.alloc (.cells #[.slice ra rl rc] 87)).alloc (.cells #[.slice fa fl fc, .slice ma ml mc] 90)).cell? ⟨w.heap.size, 0, none⟩ = some (.slice ra rl rc) ∧ ((w.alloc (.cells #[.slice ra rl rc] 87)).alloc (.cells #[.slice fa fl fc, .slice ma ml mc] 90)).cell? ⟨w.heap.size + 1, 0, none⟩ = some (.slice fa fl fc) ∧ ((w.alloc (.cells #[.slice ra rl rc] 87)).alloc (.cells #[.slice fa fl fc, .slice ma ml mc] 90)).cell? ⟨w.heap.size + 1, 1, none⟩ = some (.slice ma ml mc)) := Lib.hid (by
    refine ⟨((Below.refl _ w).alloc (Nat.le_refl _) _).alloc (by simp) _, ?_, ?_, ?_⟩ <;> simp [go_sem])
  obtain ⟨z1, hz1⟩ : ∃ z, inR (rl : Int) 1 39 = z := ⟨_, rfl⟩
  obtain ⟨z2, hz2⟩ : ∃ z, inR (ml : Int) 1 40 = z := ⟨_, rfl⟩
  have HZ := Lib.hid (And.intro hz1 hz2)
  clear hB hrl hfl hml her hz1 hz2
  go_enter Try.func59, Try.ntmps59
  go_upto_region 1 with (fail)
  obtain ⟨q, hq⟩ : ∃ q, q = w.heap.size := ⟨_, rfl⟩
  have HQ := Lib.hid hq.symm
  rw [← hq] at HM
  simp only [← hq]
  clear hq
  generalize ((w.alloc (.cells #[.slice ra rl rc] 87)).alloc (.cells #[.slice fa fl fc, .slice ma ml mc] 90)) = w1 at HM ⊢
  obtain ⟨-, k0, k1, k2⟩ := HM.out
  have HW1 : Hid (Below w.heap.size w w1) := Lib.hid (by rw [HQ.out]; exact HM.out.1)
  go_wp2_with fail
  refine (in_any _ _ _ _).mono ?_
  rintro e w' ⟨rfl, rfl⟩
  rw [HZ.out.1]
  cases z1 with
  | false =>
    have HE : Hid (er = 3) := Lib.hid (by rw [HER.out]; unfold Rd.err; rw [← HL.out.1, if_pos (.inl HZ.out.1)])
    have HBB := HW1
    go_wp2
    go_ret
    exact ⟨by rw [HE.out]; rfl, HBB.out⟩
  | true =>
    go_wp2_with fail
    refine (in_any _ _ _ _).mono ?_
    rintro e w' ⟨rfl, rfl⟩
    rw [HZ.out.2]
    cases z2 with
    | false =>
      have HE : Hid (er = 3) := Lib.hid (by rw [HER.out]; unfold Rd.err; rw [← HL.out.1, ← HL.out.2.2, if_pos (.inr (.inl HZ.out.2))])
      have HBB := HW1
      go_wp2
      go_ret
      exact ⟨by rw [HE.out]; rfl, HBB.out⟩
    | true =>
      have b1 := inR_iff.1 HZ.out.1
      have b2 := inR_iff.1 HZ.out.2
      have hw0 : IntKind.i64.wrap ((ml : Int) - 1) = (ml : Int) - 1 := IntWalk.i64_in _ (by omega)
      by_cases hfm : (fl : Int) = (ml : Int) - 1
      · have d1 : ((fl : Int) != (ml : Int) - 1) = false := by simp [hfm]
        have HC : Hid (d.err = if Rd.wrongS d.r = true ∨ Rd.wrongS d.f = true ∨ (d.m.any fun n => !inR n (-1) (d.r.length : Int)) = true then 4 else 0) := Lib.hid (by
          unfold Rd.err
          rw [if_neg]
          rintro (h | h | h)
          · rw [← HL.out.1, HZ.out.1] at h; cases h
          · rw [← HL.out.2.2, HZ.out.2] at h; cases h
          · rw [← HL.out.2.1, ← HL.out.2.2] at h; exact h hfm)
        obtain ⟨s1, hs1⟩ : ∃ s, s = d.r.all (fun s => rightS s 1 20000) := ⟨_, rfl⟩
        obtain ⟨s2, hs2⟩ : ∃ s, s = d.f.all (fun s => rightS s 1 20000) := ⟨_, rfl⟩
        obtain ⟨s3, hs3⟩ : ∃ s, s = d.m.all (fun n => inR n (-1) (rl : Int)) := ⟨_, rfl⟩
        have HS : Hid (Rd.wrongS d.r = !s1 ∧ Rd.wrongS d.f = !s2 ∧ (d.m.any fun n => !inR n (-1) (d.r.length : Int)) = !s3) := Lib.hid ⟨by rw [wrongS_all, hs1], by rw [wrongS_all, hs2], by rw [hs3, HL.out.1]; exact any_not _ _⟩
        have HSP : Hid (∀ (l : List (Int × Int)) (a : Option Addr) (n c : Nat) (s : Bool), s = l.all (fun s => rightS s 1 20000) → n = l.length → n ≤ 100 → RS B w (.slice a n c) n (spans l) → ∀ W, Below w.heap.size w W → Calls Try.prog 50 #[.slice a n c, .func (.func 79) #[] #[]] W fun e w' => e = .returned (.bool s) ∧ Below W.heap.size W w') := Lib.hid fun l a n c s hs hn h1 hrs W hW => by
          subst hn
          have h := every_span (B := B) (lb := #[]) (p := fun k => rightS (l.getD k (0, 0)) 1 20000) (w := W) (enters_of Try.func79 (by kernel_rfl) rfl) (by omega) (hrs.below (hW.mono HR.out.1)) (Nat.le_trans HR.out.1 hW.size) (fun k hk W hW => by simpa using asked1_any (l.getD k (0, 0)).1 (l.getD k (0, 0)).2 W)
          rw [show ((List.range l.length).all fun k => rightS (l.getD k (0, 0)) 1 20000) = s from by rw [hs]; exact all_sp l (fun s => rightS s 1 20000)] at h
          exact h
        have HIN : Hid (∀ W, Below w.heap.size w W → W.cell? ⟨q, 0, none⟩ = some (.slice ra rl rc) → Calls Try.prog 48 #[.slice ma ml mc, .func (.func 80) #[] #[.pointer (some ⟨q, 0, none⟩)]] W fun e w' => e = .returned (.bool s3) ∧ Below W.heap.size W w') := Lib.hid fun W hW hq => by
          have h := every_int (B := B) (lb := #[.pointer (some ⟨q, 0, none⟩)]) (p := fun k => inR (d.m.getD k 0) (-1) (rl : Int)) (w := W) (v := .slice ma ml mc) (xs := d.m) (enters_of Try.func80 (by kernel_rfl) rfl) (by have := HL.out; omega) (by rw [← HL.out.2.2]; exact HR.out.2.2.2.below (hW.mono HR.out.1)) (Nat.le_trans HR.out.1 hW.size) (fun k hk W' hW' => by simpa using asked2_any (x := d.m.getD k 0) (hW'.on hq))
          rw [show ((List.range d.m.length).all fun k => inR (d.m.getD k 0) (-1) (rl : Int)) = s3 from by rw [hs3]; exact all_at d.m (fun n => inR n (-1) (rl : Int))] at h
          exact h
        have H1 := Lib.hid (HSP.out d.r ra rl rc s1 hs1 HL.out.1 (by omega) HR.out.2.1 _ HW1.out)
        have H2 := Lib.hid (HSP.out d.f fa fl fc s2 hs2 HL.out.2.1 (by omega) HR.out.2.2.1)
        clear hs1 hs2 hs3 b1 b2 hfm HSP
        go_wp2_with fail
        refine H1.out.mono ?_
        rintro e w2 ⟨rfl, hb2⟩
        have m0 := hb2.on k0
        have m1 := hb2.on k1
        have m2 := hb2.on k2
        have HW2 : Hid (Below w.heap.size w w2) := Lib.hid (HW1.out.trans (hb2.mono HW1.out.size))
        clear hb2 k0 k1 k2 H1
        cases s1 with
        | false =>
          have HE : Hid (er = 4) := Lib.hid (by rw [HER.out, HC.out, if_pos (.inl HS.out.1)])
          have HBB := HW2
          go_wp2
          go_ret
          exact ⟨by rw [HE.out]; rfl, HBB.out⟩
        | true =>
          go_wp2_with fail
          refine (H2.out w2 HW2.out).mono ?_
          rintro e w3 ⟨rfl, hb3⟩
          have n0 := hb3.on m0
          have n1 := hb3.on m1
          have n2 := hb3.on m2
          have HW3 : Hid (Below w.heap.size w w3) := Lib.hid (HW2.out.trans (hb3.mono HW2.out.size))
          clear hb3 m0 m1 m2 H2
          cases s2 with
          | false =>
            have HE : Hid (er = 4) := Lib.hid (by rw [HER.out, HC.out, if_pos (.inr (.inl HS.out.2.1))])
            have HBB := HW3
            go_wp2
            go_ret
            exact ⟨by rw [HE.out]; rfl, HBB.out⟩
          | true =>
            have H3 := Lib.hid (HIN.out w3 HW3.out n0)
            go_wp2_with fail
            refine H3.out.mono ?_
            rintro e w4 ⟨rfl, hb4⟩
            have HBB : Hid (Below w.heap.size w w4) := Lib.hid (HW3.out.trans (hb4.mono HW3.out.size))
            clear hb4 n0 n1 n2 H3
            cases s3 with
            | false =>
              have HE : Hid (er = 4) := Lib.hid (by rw [HER.out, HC.out, if_pos (.inr (.inr HS.out.2.2))])
              go_wp2
              go_ret
              exact ⟨by rw [HE.out]; rfl, HBB.out⟩
            | true =>
              have HE : Hid (er = 0) := Lib.hid (by
                rw [HER.out, HC.out, if_neg]
                rintro (h | h | h)
                · rw [HS.out.1] at h; cases h
                · rw [HS.out.2.1] at h; cases h
                · rw [HS.out.2.2] at h; cases h)
              go_wp2
              go_ret
              exact ⟨by rw [HE.out]; rfl, HBB.out⟩
      · have d1 : ((fl : Int) != (ml : Int) - 1) = true := by rw [bne_iff_ne]; exact hfm
        have HE : Hid (er = 3) := Lib.hid (by rw [HER.out]; unfold Rd.err; rw [← HL.out.1, ← HL.out.2.1, ← HL.out.2.2, if_pos (.inr (.inr hfm))])
        have HBB := HW1
        clear hfm
        go_wp2
        go_ret
        exact ⟨by rw [HE.out]; rfl, HBB.out⟩
end Go.Proofs.Ytohjinbgbfggcaa
