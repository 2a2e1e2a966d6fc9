/-
  Parts of the proof, in the order in which they build: RwC, RwD.
-/
import Derived.Test.YtohjinbgbfggcaaA9
import Derived.Test.YtohjinbgbfggcaaR7
set_option linter.unusedVariables false
set_option linter.unusedSimpArgs false
/-
  A ground of its own: the contract of the statements' Clone.
-/
namespace Go.Proofs.Ytohjinbgbfggcaa.Rg
open Go.RowKit Go.Shelf
open Lim

theorem owns_setCell {w : World} {base e size : Nat} {v : Value} {n : Nat} {xs : List Value} (h : w.ownsRow base e size v n xs) {p j : Nat} (u : Value) (hp : p < base) : (w.setCell ⟨p, j, none⟩ u).ownsRow base e size v n xs := by
  refine ⟨h.1, ?_⟩
  rcases h.2 with hn | ⟨g, cap, cur, hv, hB, hg, r⟩
  · exact .inl hn
  · exact .inr ⟨g, cap, cur, hv, hB, (Below.heap_setCell w ⟨p, j, none⟩ u g (by show g ≠ p; omega)).trans hg, r⟩
theorem range3 {w : World} {b : Nat} {x y z : Value} (h0 : w.cell? ⟨b, 0, none⟩ = some x) (h1 : w.cell? ⟨b, 1, none⟩ = some y) (h2 : w.cell? ⟨b, 2, none⟩ = some z) : w.rangeAt b 0 [x, y, z] := by
  intro j v hj
  rw [Nat.zero_add]
  match j with
  | 0 => simp at hj; subst hj; exact h0
  | 1 => simp at hj; subst hj; exact h1
  | 2 => simp at hj; subst hj; exact h2
  | j + 3 => simp at hj
theorem store_three {P : Program} {W : World} {p : Nat} {u0 u1 u2 : Value} (x y z : Value) (hx : x.oneCell' = true) (hy : y.oneCell' = true) (hz : z.oneCell' = true) (h0 : W.cell? ⟨p, 0, none⟩ = some u0) (h1 : W.cell? ⟨p, 1, none⟩ = some u1) (h2 : W.cell? ⟨p, 2, none⟩ = some u2)
    (f0 : W.frozen? ⟨p, 0, none⟩ = false) (f1 : W.frozen? ⟨p, 1, none⟩ = false) (f2 : W.frozen? ⟨p, 2, none⟩ = false) :
    (storeCells ⟨p, 0, none⟩ [x, y, z]).run P W = .ok () (((W.setCell ⟨p, 0, none⟩ x).setCell ⟨p, 1, none⟩ y).setCell ⟨p, 2, none⟩ z) := by
  have := run_storeCells_cells (P := P) p 0 [x, y, z] 0 W (fun j hj => by
      match j with
      | 0 => simp [h0]
      | 1 => simp [h1]
      | 2 => simp [h2]
      | j + 3 => exact absurd hj (by simp)) (fun j hj => by
      match j with
      | 0 => simpa using f0
      | 1 => simpa using f1
      | 2 => simpa using f2
      | j + 3 => exact absurd hj (by simp)) (fun v hv => by
      rcases List.mem_cons.1 hv with rfl | hv
      · exact hx
      rcases List.mem_cons.1 hv with rfl | hv
      · exact hy
      · have : v = z := by simpa using hv
        rw [this]; exact hz)
  simpa [World.setCells] using this
theorem three_set {W : World} {p : Nat} {u0 u1 u2 : Value} (x y z : Value) (h0 : W.cell? ⟨p, 0, none⟩ = some u0) (h1 : W.cell? ⟨p, 1, none⟩ = some u1) (h2 : W.cell? ⟨p, 2, none⟩ = some u2) :
    (((W.setCell ⟨p, 0, none⟩ x).setCell ⟨p, 1, none⟩ y).setCell ⟨p, 2, none⟩ z).cell? ⟨p, 0, none⟩ = some x ∧ (((W.setCell ⟨p, 0, none⟩ x).setCell ⟨p, 1, none⟩ y).setCell ⟨p, 2, none⟩ z).cell? ⟨p, 1, none⟩ = some y ∧ (((W.setCell ⟨p, 0, none⟩ x).setCell ⟨p, 1, none⟩ y).setCell ⟨p, 2, none⟩ z).cell? ⟨p, 2, none⟩ = some z := by
  refine ⟨?_, ?_, ?_⟩
  · rw [setCell_off _ _ (by omega), setCell_off _ _ (by omega)]; exact World.cell?_setCell_same' _ _ _ (by rw [h0]; rfl)
  · rw [setCell_off _ _ (by omega)]; exact World.cell?_setCell_same' _ _ _ (by rw [setCell_off _ _ (by omega), h1]; rfl)
  · exact World.cell?_setCell_same' _ _ _ (by rw [setCell_off _ _ (by omega), setCell_off _ _ (by omega), h2]; rfl)
theorem size_lclone_any : (Try.prog.info? 34).map (·.size) = some 3 := by kernel_rfl
set_option maxRecDepth 20000 in
set_option maxHeartbeats 1000000 in
theorem lclone_any {B : Nat} {wd : Int} {hv sv : Value} {hs : List (Int × Int)} {ss : List Int} {w : World} (hB : B ≤ w.heap.size) (hh : RS B w hv hs.length (spans hs)) (hss : RS B w sv ss.length (ints ss)) (hn : hs.length ≤ 1000) (hm : ss.length ≤ 1000) :
    Calls Try.prog 9 #[.agg #[.int .i64 wd, hv, sv]] w fun e w' => ∃ hv' sv', e = .returned (.agg #[.int .i64 wd, hv', sv']) ∧ w'.ownsRow w.heap.size 28 2 hv' hs.length (spans hs) ∧ w'.ownsRow w.heap.size 3 1 sv' ss.length (ints ss) ∧ Below w.heap.size w w' := by
  have h1h : hv.oneCell' = true := by obtain ⟨a, c, rfl, -⟩ := hh; rfl
  have h1s : sv.oneCell' = true := by obtain ⟨a, c, rfl, -⟩ := hss; rfl
  have HH := Lib.hid (And.intro hh hss)
  have HN := Lib.hid (And.intro hn (And.intro hm hB))
  clear hn hm hh hss hB
  go_enter Try.func9, Try.ntmps9
  have B0 : Below w.heap.size w ((w.alloc (.cells #[.int .i64 wd, hv, sv] 34)).alloc (.cells #[.int .i64 0, .slice none 0 0, .slice none 0 0] 34)) := ((Below.refl _ w).alloc (Nat.le_refl _) _).alloc (by simp) _
  have hC : (fun W => W.cell? ⟨w.heap.size, 0, none⟩ = some (.int .i64 wd) ∧ W.cell? ⟨w.heap.size, 1, none⟩ = some hv ∧ W.cell? ⟨w.heap.size, 2, none⟩ = some sv) ((w.alloc (.cells #[.int .i64 wd, hv, sv] 34)).alloc (.cells #[.int .i64 0, .slice none 0 0, .slice none 0 0] 34)).drew := ⟨by simp [go_sem], by simp [go_sem], by simp [go_sem]⟩
  have Z : ∀ j, j < 3 → ∃ u, ((w.alloc (.cells #[.int .i64 wd, hv, sv] 34)).alloc (.cells #[.int .i64 0, .slice none 0 0, .slice none 0 0] 34)).cell? ⟨w.heap.size + 1, j, none⟩ = some u ∧ ((w.alloc (.cells #[.int .i64 wd, hv, sv] 34)).alloc (.cells #[.int .i64 0, .slice none 0 0, .slice none 0 0] 34)).frozen? ⟨w.heap.size + 1, j, none⟩ = false := by
    intro j hj
    match j with
    | 0 => exact ⟨.int .i64 0, by simp [go_sem], by simp [go_sem]⟩
    | 1 => exact ⟨.slice none 0 0, by simp [go_sem], by simp [go_sem]⟩
    | 2 => exact ⟨.slice none 0 0, by simp [go_sem], by simp [go_sem]⟩
    | j + 3 => omega
  have HZ := Lib.hid Z
  have HSZ : Hid (w.heap.size + 2 ≤ ((w.alloc (.cells #[.int .i64 wd, hv, sv] 34)).alloc (.cells #[.int .i64 0, .slice none 0 0, .slice none 0 0] 34)).heap.size) := Lib.hid (by simp)
  have HB := Lib.hid B0
  have HHC := Lib.hid hC
  clear Z B0 hC
  go_wp2_with fail
  generalize hW : (World.alloc _ _).alloc _ = W0 at HZ HB HHC HSZ ⊢
  clear hW
  have hC := HHC.out
  have hsz : w.heap.size + 2 ≤ W0.drew.heap.size := HSZ.out
  clear HHC
  refine Lim.regC' (fun W => W.cell? ⟨w.heap.size, 0, none⟩ = some (.int .i64 wd) ∧ W.cell? ⟨w.heap.size, 1, none⟩ = some hv ∧ W.cell? ⟨w.heap.size, 2, none⟩ = some sv) [] #[false, false, false, false, false, false, false, false, false, false] (by kernel_rfl) rfl ?_
  refine Lim.stepR 0 (fun _ => trivial) rfl (by kernel_rfl) (fun _ _ _ _ h => h) hC rfl ?_; apply Exists.intro; refine ⟨?_, ?_⟩
  · rintro w ⟨r1, r2, r3⟩; go_simp; try with_reducible rfl
  simp only [Act.put, List.setIfInBounds_toArray, List.set_cons_succ, List.set_cons_zero]
  refine Lim.stepR 1 (fun _ => trivial) rfl (by kernel_rfl) (fun _ _ _ _ h => h) hC rfl ?_; apply Exists.intro; refine ⟨?_, ?_⟩
  · rintro w ⟨r1, r2, r3⟩; go_simp; try with_reducible rfl
  simp only [Act.put, List.setIfInBounds_toArray, List.set_cons_succ, List.set_cons_zero]
  refine Lim.stepR 2 (fun _ => trivial) rfl (by kernel_rfl) (fun _ _ _ _ h => h) hC rfl ?_; apply Exists.intro; refine ⟨?_, ?_⟩
  · rintro w ⟨r1, r2, r3⟩; go_simp; try with_reducible rfl
  simp only [Act.put, List.setIfInBounds_toArray, List.set_cons_succ, List.set_cons_zero]
  refine Lim.stepR 3 (fun _ => trivial) rfl (by kernel_rfl) (fun _ _ _ _ h => h) hC rfl ?_; apply Exists.intro; refine ⟨?_, ?_⟩
  · rintro w ⟨r1, r2, r3⟩; go_simp; try with_reducible rfl
  simp only [Act.put, List.setIfInBounds_toArray, List.set_cons_succ, List.set_cons_zero]
  refine Lim.stepR 5 (fun _ => trivial) rfl (by kernel_rfl) (fun _ _ _ _ h => h) hC rfl ?_; apply Exists.intro; refine ⟨?_, ?_⟩
  · rintro w ⟨r1, r2, r3⟩; go_simp; try with_reducible rfl
  simp only [Act.put, List.setIfInBounds_toArray, List.set_cons_succ, List.set_cons_zero]
  refine Lim.stepR 6 (fun _ => trivial) rfl (by kernel_rfl) (fun _ _ _ _ h => h) hC rfl ?_; apply Exists.intro; refine ⟨?_, ?_⟩
  · rintro w ⟨r1, r2, r3⟩; go_simp; try with_reducible rfl
  simp only [Act.put, List.setIfInBounds_toArray, List.set_cons_succ, List.set_cons_zero]
  refine Lim.stepE 4 (fun _ => trivial) rfl (by kernel_rfl) rfl (fun K hK => ?_)   -- E call
  go_simp
  refine ⟨rfl, (callsIn_wide.2 (kclone_spans HN.out.1 (HH.out.1.below ((HB.out.drew).mono HN.out.2.2)))).mono ?_⟩
  rintro e w3 ⟨v3, rfl, ho3, hb3⟩
  have hC3 : (fun W => W.cell? ⟨w.heap.size, 0, none⟩ = some (.int .i64 wd) ∧ W.cell? ⟨w.heap.size, 1, none⟩ = some hv ∧ W.cell? ⟨w.heap.size, 2, none⟩ = some sv) w3 := ⟨cell_on hb3 hC.1, cell_on hb3 hC.2.1, cell_on hb3 hC.2.2⟩
  have HB3 := Lib.hid (HB.out.drew.trans (hb3.mono HB.out.drew.size))
  obtain ⟨a3, c3, rfl, -⟩ := RS.of_owns ho3
  have HO3 := Lib.hid (owns_mono ho3 hsz)
  have HBB := Lib.hid hb3
  have hsz3 : w.heap.size + 2 ≤ w3.heap.size := Nat.le_trans hsz hb3.size
  clear ho3 hb3
  refine hK _ _ hC3 ?_
  simp only [Act.put, List.setIfInBounds_toArray, List.set_cons_succ, List.set_cons_zero]
  refine Lim.stepE 7 (fun _ => trivial) rfl (by kernel_rfl) rfl (fun K hK => ?_)   -- E call
  go_simp
  refine ⟨rfl, (callsIn_wide.2 (kclone_ints HN.out.2.1 (HH.out.2.below (HB3.out.mono HN.out.2.2)))).mono ?_⟩
  rintro e w4 ⟨v4, rfl, ho4, hb4⟩
  have hC4 : (fun W => W.cell? ⟨w.heap.size, 0, none⟩ = some (.int .i64 wd) ∧ W.cell? ⟨w.heap.size, 1, none⟩ = some hv ∧ W.cell? ⟨w.heap.size, 2, none⟩ = some sv) w4 := ⟨cell_on hb4 hC3.1, cell_on hb4 hC3.2.1, cell_on hb4 hC3.2.2⟩
  have HB4 := Lib.hid (HB3.out.trans (hb4.mono HB3.out.size))
  obtain ⟨a4, c4, rfl, -⟩ := RS.of_owns ho4
  have HO4 := Lib.hid (owns_mono ho4 hsz3)
  have HO34 := Lib.hid (owns_below HO3.out hb4)
  have HZ4 : Hid (∀ j, j < 3 → ∃ u, w4.cell? ⟨w.heap.size + 1, j, none⟩ = some u ∧ w4.frozen? ⟨w.heap.size + 1, j, none⟩ = false) := Lib.hid (fun j hj => by
    obtain ⟨u, z, y⟩ := HZ.out j hj
    have z3 : W0.drew.cell? ⟨w.heap.size + 1, j, none⟩ = some u := z
    have y3 : W0.drew.frozen? ⟨w.heap.size + 1, j, none⟩ = false := y
    exact ⟨u, cell_on hb4 (cell_on HBB.out z3), frozen_on hb4 (cell_on HBB.out z3) (frozen_on HBB.out z3 y3)⟩)
  clear ho4 hb4 HBB HO3
  refine hK _ _ hC4 ?_
  simp only [Act.put, List.setIfInBounds_toArray, List.set_cons_succ, List.set_cons_zero]
  refine Lim.stepR 8 (fun _ => trivial) rfl (by kernel_rfl) (fun _ _ _ _ h => h) hC4 rfl ?_; apply Exists.intro; refine ⟨?_, ?_⟩
  · rintro w ⟨r1, r2, r3⟩; go_simp; try with_reducible rfl
  simp only [Act.put, List.setIfInBounds_toArray, List.set_cons_succ, List.set_cons_zero]
  refine Lim.stepE 9 (fun _ => trivial) rfl (by kernel_rfl) rfl (fun K hK => ?_)   -- E store
  obtain ⟨u0, z0, y0⟩ := HZ4.out 0 (by omega)
  obtain ⟨u1, z1, y1⟩ := HZ4.out 1 (by omega)
  obtain ⟨u2, z2, y2⟩ := HZ4.out 2 (by omega)
  obtain ⟨c0, c1, c2⟩ := three_set (.int .i64 wd) (.slice a3 hs.length c3) (.slice a4 ss.length c4) z0 z1 z2
  have e1 := store_three (P := Try.prog) (.int .i64 wd) (.slice a3 hs.length c3) (.slice a4 ss.length c4) rfl rfl rfl z0 z1 z2 y0 y1 y2
  have HC := Lib.hid (And.intro c0 (And.intro c1 c2))
  have hlt : w.heap.size + 1 < w4.heap.size := World.block_lt_of_cell? _ _ z0
  clear c0 c1 c2
  go_simp
  refine hK _ _ ⟨(setCell_far _ _ (by omega)).trans ((setCell_far _ _ (by omega)).trans ((setCell_far _ _ (by omega)).trans hC4.1)), (setCell_far _ _ (by omega)).trans ((setCell_far _ _ (by omega)).trans ((setCell_far _ _ (by omega)).trans hC4.2.1)), (setCell_far _ _ (by omega)).trans ((setCell_far _ _ (by omega)).trans ((setCell_far _ _ (by omega)).trans hC4.2.2))⟩ ?_

  refine Lim.stepD (by kernel_rfl) ?_
  have BW : Below w.heap.size w (((w4.setCell ⟨w.heap.size + 1, 0, none⟩ (.int .i64 wd)).setCell ⟨w.heap.size + 1, 1, none⟩ (.slice a3 hs.length c3)).setCell ⟨w.heap.size + 1, 2, none⟩ (.slice a4 ss.length c4)) := ((HB4.out.setCell (p := ⟨w.heap.size + 1, 0, none⟩) (Nat.le_succ _) _).setCell (p := ⟨w.heap.size + 1, 1, none⟩) (Nat.le_succ _) _).setCell (p := ⟨w.heap.size + 1, 2, none⟩) (Nat.le_succ _) _
  have KK := Lib.hid (owns_mono (base' := w.heap.size) (owns_setCell (owns_setCell (owns_setCell HO34.out (p := w.heap.size + 1) (j := 0) (.int .i64 wd) (by omega)) (p := w.heap.size + 1) (j := 1) (.slice a3 hs.length c3) (by omega)) (p := w.heap.size + 1) (j := 2) (.slice a4 ss.length c4) (by omega)) (by omega))
  have KS := Lib.hid (owns_mono (base' := w.heap.size) (owns_setCell (owns_setCell (owns_setCell HO4.out (p := w.heap.size + 1) (j := 0) (.int .i64 wd) (by omega)) (p := w.heap.size + 1) (j := 1) (.slice a3 hs.length c3) (by omega)) (p := w.heap.size + 1) (j := 2) (.slice a4 ss.length c4) (by omega)) (by omega))
  go_wp2
  refine bodyPost_ret (v := .agg #[.int .i64 wd, .slice a3 hs.length c3, .slice a4 ss.length c4]) (results_mid rfl _ _ (w.heap.size + 1) 0 [.int .i64 wd, .slice a3 hs.length c3, .slice a4 ss.length c4] _ rfl (range3 HC.out.1 HC.out.2.1 HC.out.2.2) Try.underlying34 rfl size_lclone_any) rfl ?_
  exact ⟨_, _, rfl, KK.out, KS.out, BW⟩
end Go.Proofs.Ytohjinbgbfggcaa.Rg
/-
  The greatest of a list: the contract of slices.Max over numbers.
-/
namespace Go.Proofs.Ytohjinbgbfggcaa
open Go.RowKit Go.Shelf
open Lim
set_option maxRecDepth 100000 in
set_option maxHeartbeats 2000000 in
theorem max_any {w : World} {b off n c : Nat} {f : Nat → Int} (hn : 0 < n) (hb : n ≤ 1000) (hc : ∀ j, j < n → w.cell? ⟨b, off + j, none⟩ = some (.int .i64 (f j))) :
    Calls Try.prog 12 #[.slice (some ⟨b, off, none⟩) n c] w fun e w' => ∃ r : Int, e = .returned (.int .i64 r) ∧ (∃ j, j < n ∧ r = f j) ∧ w' = w := by
  have h0 : w.cell? ⟨b, off, none⟩ = some (.int .i64 (f 0)) := by simpa using hc 0 hn
  obtain ⟨z, hz⟩ : ∃ z, z = f 0 := ⟨_, rfl⟩
  rw [← hz] at h0
  have HC := Lib.hid hc
  have HZ : Hid (∃ j, j < 1 ∧ z = f j) := Lib.hid ⟨0, by omega, hz⟩
  clear hc hz
  go_enter Try.func12, Try.ntmps12
  go_wp2
  go_loopg [3, 4] n (fun g m i wr => ∃ (k : Nat) (r : Int), 0 < k ∧ k ≤ n ∧ n - k ≤ g ∧ i = .int .i64 k ∧ m = .int .i64 r ∧ Hid (∃ j, j < k ∧ r = f j) ∧ wr = w)
  case atStart => exact ⟨1, z, Nat.one_pos, hn, by omega, rfl, rfl, HZ, rfl⟩
  case round =>
    obtain ⟨k, r, hk0, hk, hg, rfl, rfl, HR, rfl⟩ := hrel
    clear h0 HZ
    by_cases hlt : k < n
    · obtain ⟨x, hx⟩ : ∃ x, x = f k := ⟨_, rfl⟩
      have ck : wr.cell? ⟨b, off + k, none⟩ = some (.int .i64 x) := by rw [hx]; exact HC.out k hlt
      have HX := Lib.hid hx
      clear hx
      go_wp2
      go_roundg (n - (k + 1))
      case measure => omega
      case rel =>
        refine ⟨k + 1, _, Nat.succ_pos k, by omega, Nat.le_refl _, by go_num, rfl, Lib.hid ?_, rfl⟩
        obtain ⟨j, hj, e⟩ := HR.out
        rcases Int.lt_or_le r x with h | h
        · exact ⟨k, by omega, by rw [Int.max_eq_right (by omega)]; exact HX.out⟩
        · exact ⟨j, by omega, by rw [Int.max_eq_left h]; exact e⟩
    · have : k = n := by omega
      subst this
      go_wp2
      go_ret
      exact ⟨r, rfl, HR.out, rfl⟩
end Go.Proofs.Ytohjinbgbfggcaa
