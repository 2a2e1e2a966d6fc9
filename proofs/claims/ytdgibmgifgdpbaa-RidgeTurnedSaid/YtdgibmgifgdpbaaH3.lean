/-
  Parts of the proof, in the order in which they build: LawA, LawB.
-/
import Derived.Test.YtdgibmgifgdpbaaG16
import Derived.Test.YtdgibmgifgdpbaaG8
import Derived.Test.YtdgibmgifgdpbaaH2
set_option linter.unusedVariables false
set_option linter.unusedSimpArgs false
/-
  What the statements use: lists of their own, grounds that are cloned and compared: the contracts.
-/
namespace Go.Proofs.Ytdgibmgifgdpbaa
open Go.RowKit Go.Shelf
open Lim

theorem addr_add (b off j : Nat) : (⟨b, off, none⟩ : Addr).add j = ⟨b, off + j, none⟩ := by unfold Addr.add; split <;> simp_all
theorem store_three {P : Program} {W : World} {p : Nat} {u0 u1 u2 : Value} (x y z : Value) (hx : x.oneCell' = true) (hy : y.oneCell' = true) (hz : z.oneCell' = true) (h0 : W.cell? ⟨p, 0, none⟩ = some u0) (h1 : W.cell? ⟨p, 1, none⟩ = some u1) (h2 : W.cell? ⟨p, 2, none⟩ = some u2)
    (f0 : W.frozen? ⟨p, 0, none⟩ = false) (f1 : W.frozen? ⟨p, 1, none⟩ = false) (f2 : W.frozen? ⟨p, 2, none⟩ = false) :
    (storeCells ⟨p, 0, none⟩ [x, y, z]).run P W = .ok () (((W.setCell ⟨p, 0, none⟩ x).setCell ⟨p, 1, none⟩ y).setCell ⟨p, 2, none⟩ z) := by
  have := run_storeCells_cells (P := P) p 0 [x, y, z] 0 W (fun j hj => by
      match j with
      | 0 => simp [h0]
      | 1 => simp [h1]
      | 2 => simp [h2]
      | j + 3 => exact absurd hj (by simp)) (fun j hj => by
      match j with
      | 0 => simpa using f0
      | 1 => simpa using f1
      | 2 => simpa using f2
      | j + 3 => exact absurd hj (by simp)) (fun v hv => by
      rcases List.mem_cons.1 hv with rfl | hv
      · exact hx
      rcases List.mem_cons.1 hv with rfl | hv
      · exact hy
      · have : v = z := by simpa using hv
        rw [this]; exact hz)
  simpa [World.setCells] using this
theorem three_set {W : World} {p : Nat} {u0 u1 u2 : Value} (x y z : Value) (h0 : W.cell? ⟨p, 0, none⟩ = some u0) (h1 : W.cell? ⟨p, 1, none⟩ = some u1) (h2 : W.cell? ⟨p, 2, none⟩ = some u2) :
    (((W.setCell ⟨p, 0, none⟩ x).setCell ⟨p, 1, none⟩ y).setCell ⟨p, 2, none⟩ z).cell? ⟨p, 0, none⟩ = some x ∧ (((W.setCell ⟨p, 0, none⟩ x).setCell ⟨p, 1, none⟩ y).setCell ⟨p, 2, none⟩ z).cell? ⟨p, 1, none⟩ = some y ∧ (((W.setCell ⟨p, 0, none⟩ x).setCell ⟨p, 1, none⟩ y).setCell ⟨p, 2, none⟩ z).cell? ⟨p, 2, none⟩ = some z := by
  refine ⟨?_, ?_, ?_⟩
  · rw [setCell_off _ _ (by omega), setCell_off _ _ (by omega)]; exact World.cell?_setCell_same' _ _ _ (by rw [h0]; rfl)
  · rw [setCell_off _ _ (by omega)]; exact World.cell?_setCell_same' _ _ _ (by rw [setCell_off _ _ (by omega), h1]; rfl)
  · exact World.cell?_setCell_same' _ _ _ (by rw [setCell_off _ _ (by omega), setCell_off _ _ (by omega), h2]; rfl)
section
variable {P : Program} {w : World}
/-- nothing is appended to nothing -/
theorem run_append_empty (t ty e : TypeId) (i : TypeInfo) (ht : P.underlying t = some (.slice e)) (hi : P.info? e = some i) (a : Option Addr) (c : Nat) :
    (Builtin.append_ #[t, t] ty #[.slice none 0 0, .slice a 0 c]).run P w = .ok (.slice none 0 0) w := by
  cases a <;> simp [Builtin.append_, run_underlying ht, sizeOf, typeInfo, hi, Builtin.lenOf, Builtin.firstCells, loadCells, loadCellsFrom]
theorem wpList_append_empty {ops : Array Oper} {rest : List Oper} {o : Oper} {act : Act} {Q : Exit → Act → World → Prop} (hgd : o.guard = none) (s x : Operand) (t e : TypeId) (i : TypeInfo)
    (ho : o.op = .call { callee := .builtin .append, args := #[s, x], argTypes := #[t, t] }) (ht : P.underlying t = some (.slice e)) (hi : P.info? e = some i) (a : Option Addr) (c : Nat)
    (hs : act.eval s = .slice none 0 0) (hx : act.eval x = .slice a 0 c) (h : wpList P ops Q rest (act.put o.dst (.slice none 0 0)) w) : wpList P ops Q (o :: rest) act w :=
  wpList_plain hgd fun K hK => by
    unfold Oper.wp execOp
    simp only [ho, resolve, invoke, builtin, Sem.run_bind, Sem.run_pure, Result.andThen_ok, List.map_toArray, List.map_cons, List.map_nil, hs, hx, run_append_empty (w := w) t o.type e i ht hi a c]
    exact hK _ _ h
end
set_option maxRecDepth 20000 in
set_option maxHeartbeats 1000000 in
/-- a list of numbers of its own -/
theorem kclone_ints {B : Nat} {v : Value} {l : List Int} {w : World} (hn : l.length ≤ 1000) (h : RS B w v l.length (ints l)) :
    Calls Try.prog 40 #[v] w fun e w' => ∃ v', e = .returned v' ∧ w'.ownsRow w.heap.size 3 1 v' l.length (ints l) ∧ Below w.heap.size w w' := by
  obtain ⟨a, cap, rfl, hc⟩ := h
  obtain ⟨i0, hi, hz0, hz1, hz2⟩ := info_parts Try.infoInt
  have HI := Lib.hid (And.intro hi (And.intro hz0 (And.intro hz1 hz2)))
  clear hi hz0 hz1 hz2
  by_cases he : ints l = []
  · have e0 : l.length = 0 := by have := congrArg List.length he; simpa [ints] using this
    have HE := Lib.hid he
    rw [e0]
    clear hc he
    go_enter Try.func40, Try.ntmps40
    go_wp2_with (at_builtin; refine wpList_append_empty rfl _ _ 23 3 i0 rfl Try.underlying23 HI.out.1 a cap rfl rfl ?_)
    go_ret
    exact ⟨_, rfl, by rw [HE.out]; exact World.ownsRow_nil _ _ _ _, Below.refl _ _⟩
  · obtain ⟨b, off, rfl, hb, hcell⟩ := hc he
    have HL := Lib.hid hcell
    clear hcell he hc
    obtain ⟨n, hnl⟩ : ∃ n, n = l.length := ⟨_, rfl⟩
    have hn' : n ≤ 1000 := by omega
    rw [← hnl]
    have HN := Lib.hid hnl
    clear hn hnl
    go_enter Try.func40, Try.ntmps40
    go_wp2_with (at_builtin; refine wpList_append_own _ rfl _ _ 23 rfl w.heap.size 3 i0 (.int .i64 0) 1 8 Try.underlying23 HI.out.1 HI.out.2.1 HI.out.2.2.1 HI.out.2.2.2 rfl (by decide) (.slice none 0 0) 0 [] rfl (World.ownsRow_nil _ _ _ _) ⟨b, off, none⟩ n cap (ints l) rfl (by rw [HN.out]; simp [ints]) (fun j u hj => by rw [addr_add]; exact HL.out j u hj) (by intro u hu; simp [ints] at hu; obtain ⟨x, -, rfl⟩ := hu; rfl) (by unfold maxLen; omega) (by omega) (Nat.le_refl _) ?_; intro v' w3 hown3 hgrow _)
    have hB3 : Below w.heap.size w w3 := (Below.refl _ w).grown hgrow (Nat.le_refl _) (fun j e => by cases e)
    clear hgrow
    go_wp2
    go_ret
    exact ⟨_, rfl, by simpa using hown3, hB3⟩
set_option maxRecDepth 20000 in
set_option maxHeartbeats 1000000 in
/-- a list of spans of its own -/
theorem kclone_spans {B : Nat} {v : Value} {l : List (Int × Int)} {w : World} (hn : l.length ≤ 1000) (h : RS B w v l.length (spans l)) :
    Calls Try.prog 55 #[v] w fun e w' => ∃ v', e = .returned v' ∧ w'.ownsRow w.heap.size 54 2 v' l.length (spans l) ∧ Below w.heap.size w w' := by
  obtain ⟨a, cap, rfl, hc⟩ := h
  obtain ⟨i0, hi, hz0, hz1, hz2⟩ := info_parts infoSpan
  have HI := Lib.hid (And.intro hi (And.intro hz0 (And.intro hz1 hz2)))
  clear hi hz0 hz1 hz2
  by_cases he : spans l = []
  · have e0 : l.length = 0 := by have := congrArg List.length he; rw [spans_length] at this; simp at this; omega
    have HE := Lib.hid he
    rw [e0]
    clear hc he
    go_enter Try.func55, Try.ntmps55
    go_wp2_with (at_builtin; refine wpList_append_empty rfl _ _ 22 54 i0 rfl Try.underlying22 HI.out.1 a cap rfl rfl ?_)
    go_ret
    exact ⟨_, rfl, by rw [HE.out]; exact World.ownsRow_nil _ _ _ _, Below.refl _ _⟩
  · obtain ⟨b, off, rfl, hb, hcell⟩ := hc he
    have HL := Lib.hid hcell
    clear hcell he hc
    obtain ⟨n, hnl⟩ : ∃ n, n = l.length := ⟨_, rfl⟩
    have hn' : n ≤ 1000 := by omega
    rw [← hnl]
    have HN := Lib.hid hnl
    clear hn hnl
    go_enter Try.func55, Try.ntmps55
    go_wp2_with (at_builtin; refine wpList_append_own _ rfl _ _ 22 rfl w.heap.size 54 i0 (.agg #[.int .i64 0, .int .i64 0]) 2 16 Try.underlying22 HI.out.1 HI.out.2.1 HI.out.2.2.1 HI.out.2.2.2 rfl (by decide) (.slice none 0 0) 0 [] rfl (World.ownsRow_nil _ _ _ _) ⟨b, off, none⟩ n cap (spans l) rfl (by rw [HN.out]; exact spans_length l) (fun j u hj => by rw [addr_add]; exact HL.out j u hj) (by intro u hu; simp [spans] at hu; obtain ⟨x, y, -, rfl | rfl⟩ := hu <;> rfl) (by unfold maxLen; omega) (by omega) (Nat.le_refl _) ?_; intro v' w3 hown3 hgrow _)
    have hB3 : Below w.heap.size w w3 := (Below.refl _ w).grown hgrow (Nat.le_refl _) (fun j e => by cases e)
    clear hgrow
    go_wp2
    go_ret
    exact ⟨_, rfl, by simpa using hown3, hB3⟩

-- HEADEND
theorem size_lclone_any : (Try.prog.info? 25).map (·.size) = some 3 := by kernel_rfl
theorem size_lground_any : (Try.prog.info? 28).map (·.size) = some 3 := by kernel_rfl
set_option maxRecDepth 20000 in
set_option maxHeartbeats 1000000 in
theorem lclone_any {B : Nat} {wd : Int} {hv sv : Value} {hs : List (Int × Int)} {ss : List Int} {w : World} (hB : B ≤ w.heap.size) (hh : RS B w hv hs.length (spans hs)) (hss : RS B w sv ss.length (ints ss)) (hn : hs.length ≤ 1000) (hm : ss.length ≤ 1000) :
    Calls Try.prog 18 #[.agg #[.int .i64 wd, hv, sv]] w fun e w' => ∃ hv' sv', e = .returned (.agg #[.int .i64 wd, hv', sv']) ∧ w'.ownsRow w.heap.size 54 2 hv' hs.length (spans hs) ∧ w'.ownsRow w.heap.size 3 1 sv' ss.length (ints ss) ∧ Below w.heap.size w w' := by
  have h1h : hv.oneCell' = true := by obtain ⟨a, c, rfl, -⟩ := hh; rfl
  have h1s : sv.oneCell' = true := by obtain ⟨a, c, rfl, -⟩ := hss; rfl
  have HH := Lib.hid (And.intro hh hss)
  have HN := Lib.hid (And.intro hn (And.intro hm hB))
  clear hn hm hh hss hB
  go_enter Try.func18, Try.ntmps18
  have B0 : Below w.heap.size w ((w.alloc (.cells #[.int .i64 wd, hv, sv] 25)).alloc (.cells #[.int .i64 0, .slice none 0 0, .slice none 0 0] 25)) := ((Below.refl _ w).alloc (Nat.le_refl _) _).alloc (by simp) _
  have hC : (fun W => W.cell? ⟨w.heap.size, 0, none⟩ = some (.int .i64 wd) ∧ W.cell? ⟨w.heap.size, 1, none⟩ = some hv ∧ W.cell? ⟨w.heap.size, 2, none⟩ = some sv) ((w.alloc (.cells #[.int .i64 wd, hv, sv] 25)).alloc (.cells #[.int .i64 0, .slice none 0 0, .slice none 0 0] 25)).drew := ⟨by simp [go_sem], by simp [go_sem], by simp [go_sem]⟩
  have Z : ∀ j, j < 3 → ∃ u, ((w.alloc (.cells #[.int .i64 wd, hv, sv] 25)).alloc (.cells #[.int .i64 0, .slice none 0 0, .slice none 0 0] 25)).cell? ⟨w.heap.size + 1, j, none⟩ = some u ∧ ((w.alloc (.cells #[.int .i64 wd, hv, sv] 25)).alloc (.cells #[.int .i64 0, .slice none 0 0, .slice none 0 0] 25)).frozen? ⟨w.heap.size + 1, j, none⟩ = false := by
    intro j hj
    match j with
    | 0 => exact ⟨.int .i64 0, by simp [go_sem], by simp [go_sem]⟩
    | 1 => exact ⟨.slice none 0 0, by simp [go_sem], by simp [go_sem]⟩
    | 2 => exact ⟨.slice none 0 0, by simp [go_sem], by simp [go_sem]⟩
    | j + 3 => omega
  have HZ := Lib.hid Z
  have HSZ : Hid (w.heap.size + 2 ≤ ((w.alloc (.cells #[.int .i64 wd, hv, sv] 25)).alloc (.cells #[.int .i64 0, .slice none 0 0, .slice none 0 0] 25)).heap.size) := Lib.hid (by simp)
  have HB := Lib.hid B0
  have HHC := Lib.hid hC
  clear Z B0 hC
  go_wp2_with fail
  generalize hW : (World.alloc _ _).alloc _ = W0 at HZ HB HHC HSZ ⊢
  clear hW
  have hC := HHC.out
  have hsz : w.heap.size + 2 ≤ W0.drew.heap.size := HSZ.out
  clear HHC
  refine Lim.regC' (fun W => W.cell? ⟨w.heap.size, 0, none⟩ = some (.int .i64 wd) ∧ W.cell? ⟨w.heap.size, 1, none⟩ = some hv ∧ W.cell? ⟨w.heap.size, 2, none⟩ = some sv) [] #[false, false, false, false, false, false, false, false, false, false] (by kernel_rfl) rfl ?_
  refine Lim.stepR 0 (fun _ => trivial) rfl (by kernel_rfl) (fun _ _ _ _ h => h) hC rfl ?_; apply Exists.intro; refine ⟨?_, ?_⟩
  · rintro w ⟨r1, r2, r3⟩; go_simp; try with_reducible rfl
  simp only [Act.put, List.setIfInBounds_toArray, List.set_cons_succ, List.set_cons_zero]
  refine Lim.stepR 1 (fun _ => trivial) rfl (by kernel_rfl) (fun _ _ _ _ h => h) hC rfl ?_; apply Exists.intro; refine ⟨?_, ?_⟩
  · rintro w ⟨r1, r2, r3⟩; go_simp; try with_reducible rfl
  simp only [Act.put, List.setIfInBounds_toArray, List.set_cons_succ, List.set_cons_zero]
  refine Lim.stepR 2 (fun _ => trivial) rfl (by kernel_rfl) (fun _ _ _ _ h => h) hC rfl ?_; apply Exists.intro; refine ⟨?_, ?_⟩
  · rintro w ⟨r1, r2, r3⟩; go_simp; try with_reducible rfl
  simp only [Act.put, List.setIfInBounds_toArray, List.set_cons_succ, List.set_cons_zero]
  refine Lim.stepR 3 (fun _ => trivial) rfl (by kernel_rfl) (fun _ _ _ _ h => h) hC rfl ?_; apply Exists.intro; refine ⟨?_, ?_⟩
  · rintro w ⟨r1, r2, r3⟩; go_simp; try with_reducible rfl
  simp only [Act.put, List.setIfInBounds_toArray, List.set_cons_succ, List.set_cons_zero]
  refine Lim.stepR 5 (fun _ => trivial) rfl (by kernel_rfl) (fun _ _ _ _ h => h) hC rfl ?_; apply Exists.intro; refine ⟨?_, ?_⟩
  · rintro w ⟨r1, r2, r3⟩; go_simp; try with_reducible rfl
  simp only [Act.put, List.setIfInBounds_toArray, List.set_cons_succ, List.set_cons_zero]
  refine Lim.stepR 6 (fun _ => trivial) rfl (by kernel_rfl) (fun _ _ _ _ h => h) hC rfl ?_; apply Exists.intro; refine ⟨?_, ?_⟩
  · rintro w ⟨r1, r2, r3⟩; go_simp; try with_reducible rfl
  simp only [Act.put, List.setIfInBounds_toArray, List.set_cons_succ, List.set_cons_zero]
  refine Lim.stepE 4 (fun _ => trivial) rfl (by kernel_rfl) rfl (fun K hK => ?_)   -- E call
  go_simp
  refine ⟨rfl, (callsIn_wide.2 (kclone_spans HN.out.1 (HH.out.1.below ((HB.out.drew).mono HN.out.2.2)))).mono ?_⟩
  rintro e w3 ⟨v3, rfl, ho3, hb3⟩
  have hC3 : (fun W => W.cell? ⟨w.heap.size, 0, none⟩ = some (.int .i64 wd) ∧ W.cell? ⟨w.heap.size, 1, none⟩ = some hv ∧ W.cell? ⟨w.heap.size, 2, none⟩ = some sv) w3 := ⟨cell_on hb3 hC.1, cell_on hb3 hC.2.1, cell_on hb3 hC.2.2⟩
  have HB3 := Lib.hid (HB.out.drew.trans (hb3.mono HB.out.drew.size))
  obtain ⟨a3, c3, rfl, -⟩ := RS.of_owns ho3
  have HO3 := Lib.hid (owns_mono ho3 hsz)
  have HBB := Lib.hid hb3
  have hsz3 : w.heap.size + 2 ≤ w3.heap.size := Nat.le_trans hsz hb3.size
  clear ho3 hb3
  refine hK _ _ hC3 ?_
  simp only [Act.put, List.setIfInBounds_toArray, List.set_cons_succ, List.set_cons_zero]
  refine Lim.stepE 7 (fun _ => trivial) rfl (by kernel_rfl) rfl (fun K hK => ?_)   -- E call
  go_simp
  refine ⟨rfl, (callsIn_wide.2 (kclone_ints HN.out.2.1 (HH.out.2.below (HB3.out.mono HN.out.2.2)))).mono ?_⟩
  rintro e w4 ⟨v4, rfl, ho4, hb4⟩
  have hC4 : (fun W => W.cell? ⟨w.heap.size, 0, none⟩ = some (.int .i64 wd) ∧ W.cell? ⟨w.heap.size, 1, none⟩ = some hv ∧ W.cell? ⟨w.heap.size, 2, none⟩ = some sv) w4 := ⟨cell_on hb4 hC3.1, cell_on hb4 hC3.2.1, cell_on hb4 hC3.2.2⟩
  have HB4 := Lib.hid (HB3.out.trans (hb4.mono HB3.out.size))
  obtain ⟨a4, c4, rfl, -⟩ := RS.of_owns ho4
  have HO4 := Lib.hid (owns_mono ho4 hsz3)
  have HO34 := Lib.hid (owns_below HO3.out hb4)
  have HZ4 : Hid (∀ j, j < 3 → ∃ u, w4.cell? ⟨w.heap.size + 1, j, none⟩ = some u ∧ w4.frozen? ⟨w.heap.size + 1, j, none⟩ = false) := Lib.hid (fun j hj => by
    obtain ⟨u, z, y⟩ := HZ.out j hj
    have z3 : W0.drew.cell? ⟨w.heap.size + 1, j, none⟩ = some u := z
    have y3 : W0.drew.frozen? ⟨w.heap.size + 1, j, none⟩ = false := y
    exact ⟨u, cell_on hb4 (cell_on HBB.out z3), frozen_on hb4 (cell_on HBB.out z3) (frozen_on HBB.out z3 y3)⟩)
  clear ho4 hb4 HBB HO3
  refine hK _ _ hC4 ?_
  simp only [Act.put, List.setIfInBounds_toArray, List.set_cons_succ, List.set_cons_zero]
  refine Lim.stepR 8 (fun _ => trivial) rfl (by kernel_rfl) (fun _ _ _ _ h => h) hC4 rfl ?_; apply Exists.intro; refine ⟨?_, ?_⟩
  · rintro w ⟨r1, r2, r3⟩; go_simp; try with_reducible rfl
  simp only [Act.put, List.setIfInBounds_toArray, List.set_cons_succ, List.set_cons_zero]
  refine Lim.stepE 9 (fun _ => trivial) rfl (by kernel_rfl) rfl (fun K hK => ?_)   -- E store
  obtain ⟨u0, z0, y0⟩ := HZ4.out 0 (by omega)
  obtain ⟨u1, z1, y1⟩ := HZ4.out 1 (by omega)
  obtain ⟨u2, z2, y2⟩ := HZ4.out 2 (by omega)
  obtain ⟨c0, c1, c2⟩ := three_set (.int .i64 wd) (.slice a3 hs.length c3) (.slice a4 ss.length c4) z0 z1 z2
  have e1 := store_three (P := Try.prog) (.int .i64 wd) (.slice a3 hs.length c3) (.slice a4 ss.length c4) rfl rfl rfl z0 z1 z2 y0 y1 y2
  have HC := Lib.hid (And.intro c0 (And.intro c1 c2))
  have hlt : w.heap.size + 1 < w4.heap.size := World.block_lt_of_cell? _ _ z0
  clear c0 c1 c2
  go_simp
  refine hK _ _ ⟨(setCell_far _ _ (by omega)).trans ((setCell_far _ _ (by omega)).trans ((setCell_far _ _ (by omega)).trans hC4.1)), (setCell_far _ _ (by omega)).trans ((setCell_far _ _ (by omega)).trans ((setCell_far _ _ (by omega)).trans hC4.2.1)), (setCell_far _ _ (by omega)).trans ((setCell_far _ _ (by omega)).trans ((setCell_far _ _ (by omega)).trans hC4.2.2))⟩ ?_

  refine Lim.stepD (by kernel_rfl) ?_
  have BW : Below w.heap.size w (((w4.setCell ⟨w.heap.size + 1, 0, none⟩ (.int .i64 wd)).setCell ⟨w.heap.size + 1, 1, none⟩ (.slice a3 hs.length c3)).setCell ⟨w.heap.size + 1, 2, none⟩ (.slice a4 ss.length c4)) := ((HB4.out.setCell (p := ⟨w.heap.size + 1, 0, none⟩) (Nat.le_succ _) _).setCell (p := ⟨w.heap.size + 1, 1, none⟩) (Nat.le_succ _) _).setCell (p := ⟨w.heap.size + 1, 2, none⟩) (Nat.le_succ _) _
  have KK := Lib.hid (owns_mono (base' := w.heap.size) (owns_setCell (owns_setCell (owns_setCell HO34.out (p := w.heap.size + 1) (j := 0) (.int .i64 wd) (by omega)) (p := w.heap.size + 1) (j := 1) (.slice a3 hs.length c3) (by omega)) (p := w.heap.size + 1) (j := 2) (.slice a4 ss.length c4) (by omega)) (by omega))
  have KS := Lib.hid (owns_mono (base' := w.heap.size) (owns_setCell (owns_setCell (owns_setCell HO4.out (p := w.heap.size + 1) (j := 0) (.int .i64 wd) (by omega)) (p := w.heap.size + 1) (j := 1) (.slice a3 hs.length c3) (by omega)) (p := w.heap.size + 1) (j := 2) (.slice a4 ss.length c4) (by omega)) (by omega))
  go_wp2
  refine bodyPost_ret (v := .agg #[.int .i64 wd, .slice a3 hs.length c3, .slice a4 ss.length c4]) (results_mid rfl _ _ (w.heap.size + 1) 0 [.int .i64 wd, .slice a3 hs.length c3, .slice a4 ss.length c4] _ rfl (range3 HC.out.1 HC.out.2.1 HC.out.2.2) Try.underlying25 rfl size_lclone_any) rfl ?_
  exact ⟨_, _, rfl, KK.out, KS.out, BW⟩
set_option maxRecDepth 20000 in
set_option maxHeartbeats 1000000 in
theorem lground_any {B : Nat} {wd : Int} {hv sv : Value} {hs : List (Int × Int)} {ss : List Int} {w : World} (hB : B ≤ w.heap.size) (hh : RS B w hv hs.length (spans hs)) (hss : RS B w sv ss.length (ints ss)) (hn : hs.length ≤ 1000) (hm : ss.length ≤ 1000) :
    Calls Try.prog 15 #[.agg #[.int .i64 wd, hv, sv]] w fun e w' => ∃ hv' sv', e = .returned (.agg #[.int .i64 wd, hv', sv']) ∧ w'.ownsRow w.heap.size 54 2 hv' hs.length (spans hs) ∧ w'.ownsRow w.heap.size 3 1 sv' ss.length (ints ss) ∧ Below w.heap.size w w' := by
  have h1h : hv.oneCell' = true := by obtain ⟨a, c, rfl, -⟩ := hh; rfl
  have h1s : sv.oneCell' = true := by obtain ⟨a, c, rfl, -⟩ := hss; rfl
  have HH := Lib.hid (And.intro hh hss)
  have HN := Lib.hid (And.intro hn (And.intro hm hB))
  clear hn hm hh hss hB
  go_enter Try.func15, Try.ntmps15
  have B0 : Below w.heap.size w ((w.alloc (.cells #[.int .i64 wd, hv, sv] 25)).alloc (.cells #[.int .i64 0, .slice none 0 0, .slice none 0 0] 28)) := ((Below.refl _ w).alloc (Nat.le_refl _) _).alloc (by simp) _
  have hC : (fun W => W.cell? ⟨w.heap.size, 0, none⟩ = some (.int .i64 wd) ∧ W.cell? ⟨w.heap.size, 1, none⟩ = some hv ∧ W.cell? ⟨w.heap.size, 2, none⟩ = some sv) ((w.alloc (.cells #[.int .i64 wd, hv, sv] 25)).alloc (.cells #[.int .i64 0, .slice none 0 0, .slice none 0 0] 28)).drew := ⟨by simp [go_sem], by simp [go_sem], by simp [go_sem]⟩
  have Z : ∀ j, j < 3 → ∃ u, ((w.alloc (.cells #[.int .i64 wd, hv, sv] 25)).alloc (.cells #[.int .i64 0, .slice none 0 0, .slice none 0 0] 28)).cell? ⟨w.heap.size + 1, j, none⟩ = some u ∧ ((w.alloc (.cells #[.int .i64 wd, hv, sv] 25)).alloc (.cells #[.int .i64 0, .slice none 0 0, .slice none 0 0] 28)).frozen? ⟨w.heap.size + 1, j, none⟩ = false := by
    intro j hj
    match j with
    | 0 => exact ⟨.int .i64 0, by simp [go_sem], by simp [go_sem]⟩
    | 1 => exact ⟨.slice none 0 0, by simp [go_sem], by simp [go_sem]⟩
    | 2 => exact ⟨.slice none 0 0, by simp [go_sem], by simp [go_sem]⟩
    | j + 3 => omega
  have HZ := Lib.hid Z
  have HSZ : Hid (w.heap.size + 2 ≤ ((w.alloc (.cells #[.int .i64 wd, hv, sv] 25)).alloc (.cells #[.int .i64 0, .slice none 0 0, .slice none 0 0] 28)).heap.size) := Lib.hid (by simp)
  have HB := Lib.hid B0
  have HHC := Lib.hid hC
  clear Z B0 hC
  go_wp2_with fail
  generalize hW : (World.alloc _ _).alloc _ = W0 at HZ HB HHC HSZ ⊢
  clear hW
  have hC := HHC.out
  have hsz : w.heap.size + 2 ≤ W0.drew.heap.size := HSZ.out
  clear HHC
  refine Lim.regC' (fun W => W.cell? ⟨w.heap.size, 0, none⟩ = some (.int .i64 wd) ∧ W.cell? ⟨w.heap.size, 1, none⟩ = some hv ∧ W.cell? ⟨w.heap.size, 2, none⟩ = some sv) [] #[false, false, false, false, false, false, false, false, false, false] (by kernel_rfl) rfl ?_
  refine Lim.stepR 0 (fun _ => trivial) rfl (by kernel_rfl) (fun _ _ _ _ h => h) hC rfl ?_; apply Exists.intro; refine ⟨?_, ?_⟩
  · rintro w ⟨r1, r2, r3⟩; go_simp; try with_reducible rfl
  simp only [Act.put, List.setIfInBounds_toArray, List.set_cons_succ, List.set_cons_zero]
  refine Lim.stepR 1 (fun _ => trivial) rfl (by kernel_rfl) (fun _ _ _ _ h => h) hC rfl ?_; apply Exists.intro; refine ⟨?_, ?_⟩
  · rintro w ⟨r1, r2, r3⟩; go_simp; try with_reducible rfl
  simp only [Act.put, List.setIfInBounds_toArray, List.set_cons_succ, List.set_cons_zero]
  refine Lim.stepR 2 (fun _ => trivial) rfl (by kernel_rfl) (fun _ _ _ _ h => h) hC rfl ?_; apply Exists.intro; refine ⟨?_, ?_⟩
  · rintro w ⟨r1, r2, r3⟩; go_simp; try with_reducible rfl
  simp only [Act.put, List.setIfInBounds_toArray, List.set_cons_succ, List.set_cons_zero]
  refine Lim.stepR 3 (fun _ => trivial) rfl (by kernel_rfl) (fun _ _ _ _ h => h) hC rfl ?_; apply Exists.intro; refine ⟨?_, ?_⟩
  · rintro w ⟨r1, r2, r3⟩; go_simp; try with_reducible rfl
  simp only [Act.put, List.setIfInBounds_toArray, List.set_cons_succ, List.set_cons_zero]
  refine Lim.stepR 5 (fun _ => trivial) rfl (by kernel_rfl) (fun _ _ _ _ h => h) hC rfl ?_; apply Exists.intro; refine ⟨?_, ?_⟩
  · rintro w ⟨r1, r2, r3⟩; go_simp; try with_reducible rfl
  simp only [Act.put, List.setIfInBounds_toArray, List.set_cons_succ, List.set_cons_zero]
  refine Lim.stepR 6 (fun _ => trivial) rfl (by kernel_rfl) (fun _ _ _ _ h => h) hC rfl ?_; apply Exists.intro; refine ⟨?_, ?_⟩
  · rintro w ⟨r1, r2, r3⟩; go_simp; try with_reducible rfl
  simp only [Act.put, List.setIfInBounds_toArray, List.set_cons_succ, List.set_cons_zero]
  refine Lim.stepE 4 (fun _ => trivial) rfl (by kernel_rfl) rfl (fun K hK => ?_)   -- E call
  go_simp
  refine ⟨rfl, (callsIn_wide.2 (kclone_spans HN.out.1 (HH.out.1.below ((HB.out.drew).mono HN.out.2.2)))).mono ?_⟩
  rintro e w3 ⟨v3, rfl, ho3, hb3⟩
  have hC3 : (fun W => W.cell? ⟨w.heap.size, 0, none⟩ = some (.int .i64 wd) ∧ W.cell? ⟨w.heap.size, 1, none⟩ = some hv ∧ W.cell? ⟨w.heap.size, 2, none⟩ = some sv) w3 := ⟨cell_on hb3 hC.1, cell_on hb3 hC.2.1, cell_on hb3 hC.2.2⟩
  have HB3 := Lib.hid (HB.out.drew.trans (hb3.mono HB.out.drew.size))
  obtain ⟨a3, c3, rfl, -⟩ := RS.of_owns ho3
  have HO3 := Lib.hid (owns_mono ho3 hsz)
  have HBB := Lib.hid hb3
  have hsz3 : w.heap.size + 2 ≤ w3.heap.size := Nat.le_trans hsz hb3.size
  clear ho3 hb3
  refine hK _ _ hC3 ?_
  simp only [Act.put, List.setIfInBounds_toArray, List.set_cons_succ, List.set_cons_zero]
  refine Lim.stepE 7 (fun _ => trivial) rfl (by kernel_rfl) rfl (fun K hK => ?_)   -- E call
  go_simp
  refine ⟨rfl, (callsIn_wide.2 (kclone_ints HN.out.2.1 (HH.out.2.below (HB3.out.mono HN.out.2.2)))).mono ?_⟩
  rintro e w4 ⟨v4, rfl, ho4, hb4⟩
  have hC4 : (fun W => W.cell? ⟨w.heap.size, 0, none⟩ = some (.int .i64 wd) ∧ W.cell? ⟨w.heap.size, 1, none⟩ = some hv ∧ W.cell? ⟨w.heap.size, 2, none⟩ = some sv) w4 := ⟨cell_on hb4 hC3.1, cell_on hb4 hC3.2.1, cell_on hb4 hC3.2.2⟩
  have HB4 := Lib.hid (HB3.out.trans (hb4.mono HB3.out.size))
  obtain ⟨a4, c4, rfl, -⟩ := RS.of_owns ho4
  have HO4 := Lib.hid (owns_mono ho4 hsz3)
  have HO34 := Lib.hid (owns_below HO3.out hb4)
  have HZ4 : Hid (∀ j, j < 3 → ∃ u, w4.cell? ⟨w.heap.size + 1, j, none⟩ = some u ∧ w4.frozen? ⟨w.heap.size + 1, j, none⟩ = false) := Lib.hid (fun j hj => by
    obtain ⟨u, z, y⟩ := HZ.out j hj
    have z3 : W0.drew.cell? ⟨w.heap.size + 1, j, none⟩ = some u := z
    have y3 : W0.drew.frozen? ⟨w.heap.size + 1, j, none⟩ = false := y
    exact ⟨u, cell_on hb4 (cell_on HBB.out z3), frozen_on hb4 (cell_on HBB.out z3) (frozen_on HBB.out z3 y3)⟩)
  clear ho4 hb4 HBB HO3
  refine hK _ _ hC4 ?_
  simp only [Act.put, List.setIfInBounds_toArray, List.set_cons_succ, List.set_cons_zero]
  refine Lim.stepR 8 (fun _ => trivial) rfl (by kernel_rfl) (fun _ _ _ _ h => h) hC4 rfl ?_; apply Exists.intro; refine ⟨?_, ?_⟩
  · rintro w ⟨r1, r2, r3⟩; go_simp; try with_reducible rfl
  simp only [Act.put, List.setIfInBounds_toArray, List.set_cons_succ, List.set_cons_zero]
  refine Lim.stepE 9 (fun _ => trivial) rfl (by kernel_rfl) rfl (fun K hK => ?_)   -- E store
  obtain ⟨u0, z0, y0⟩ := HZ4.out 0 (by omega)
  obtain ⟨u1, z1, y1⟩ := HZ4.out 1 (by omega)
  obtain ⟨u2, z2, y2⟩ := HZ4.out 2 (by omega)
  obtain ⟨c0, c1, c2⟩ := three_set (.int .i64 wd) (.slice a3 hs.length c3) (.slice a4 ss.length c4) z0 z1 z2
  have e1 := store_three (P := Try.prog) (.int .i64 wd) (.slice a3 hs.length c3) (.slice a4 ss.length c4) rfl rfl rfl z0 z1 z2 y0 y1 y2
  have HC := Lib.hid (And.intro c0 (And.intro c1 c2))
  have hlt : w.heap.size + 1 < w4.heap.size := World.block_lt_of_cell? _ _ z0
  clear c0 c1 c2
  go_simp
  refine hK _ _ ⟨(setCell_far _ _ (by omega)).trans ((setCell_far _ _ (by omega)).trans ((setCell_far _ _ (by omega)).trans hC4.1)), (setCell_far _ _ (by omega)).trans ((setCell_far _ _ (by omega)).trans ((setCell_far _ _ (by omega)).trans hC4.2.1)), (setCell_far _ _ (by omega)).trans ((setCell_far _ _ (by omega)).trans ((setCell_far _ _ (by omega)).trans hC4.2.2))⟩ ?_

  refine Lim.stepD (by kernel_rfl) ?_
  have BW : Below w.heap.size w (((w4.setCell ⟨w.heap.size + 1, 0, none⟩ (.int .i64 wd)).setCell ⟨w.heap.size + 1, 1, none⟩ (.slice a3 hs.length c3)).setCell ⟨w.heap.size + 1, 2, none⟩ (.slice a4 ss.length c4)) := ((HB4.out.setCell (p := ⟨w.heap.size + 1, 0, none⟩) (Nat.le_succ _) _).setCell (p := ⟨w.heap.size + 1, 1, none⟩) (Nat.le_succ _) _).setCell (p := ⟨w.heap.size + 1, 2, none⟩) (Nat.le_succ _) _
  have KK := Lib.hid (owns_mono (base' := w.heap.size) (owns_setCell (owns_setCell (owns_setCell HO34.out (p := w.heap.size + 1) (j := 0) (.int .i64 wd) (by omega)) (p := w.heap.size + 1) (j := 1) (.slice a3 hs.length c3) (by omega)) (p := w.heap.size + 1) (j := 2) (.slice a4 ss.length c4) (by omega)) (by omega))
  have KS := Lib.hid (owns_mono (base' := w.heap.size) (owns_setCell (owns_setCell (owns_setCell HO4.out (p := w.heap.size + 1) (j := 0) (.int .i64 wd) (by omega)) (p := w.heap.size + 1) (j := 1) (.slice a3 hs.length c3) (by omega)) (p := w.heap.size + 1) (j := 2) (.slice a4 ss.length c4) (by omega)) (by omega))
  go_wp2
  refine bodyPost_ret (v := .agg #[.int .i64 wd, .slice a3 hs.length c3, .slice a4 ss.length c4]) (results_mid rfl _ _ (w.heap.size + 1) 0 [.int .i64 wd, .slice a3 hs.length c3, .slice a4 ss.length c4] _ rfl (range3 HC.out.1 HC.out.2.1 HC.out.2.2) Try.underlying28 rfl size_lground_any) rfl ?_
  exact ⟨_, _, rfl, KK.out, KS.out, BW⟩
/-- whether there are too many cells: if not, not too many -/
def GreatAns (e : Ending) (n m : Nat) : Prop := ∃ b, e = .returned (.bool b) ∧ (b = false → n ≤ 110 ∧ m ≤ 110)
set_option maxRecDepth 20000 in
set_option maxHeartbeats 1000000 in
theorem great_any {B : Nat} {wd : Int} {hv sv : Value} {hs : List (Int × Int)} {ss : List Int} {w : World} (hh : RS B w hv hs.length (spans hs)) (hss : RS B w sv ss.length (ints ss)) :
    Calls Try.prog 13 #[.agg #[.int .i64 wd, hv, sv]] w fun e w' => GreatAns e hs.length ss.length ∧ Below w.heap.size w w' := by
  obtain ⟨ha, hcap, rfl, -⟩ := hh
  obtain ⟨sa, scap, rfl, -⟩ := hss
  obtain ⟨n, hn⟩ : ∃ n, n = hs.length := ⟨_, rfl⟩
  obtain ⟨m, hm⟩ : ∃ m, m = ss.length := ⟨_, rfl⟩
  rw [← hn, ← hm]
  clear hn hm
  have B0 := Lib.hid ((Below.refl w.heap.size w).alloc (Nat.le_refl _) (.cells #[.int .i64 wd, .slice ha n hcap, .slice sa m scap] 25))
  go_enter Try.func13, Try.ntmps13
  go_wp2
  all_goals
    go_ret
    refine ⟨⟨_, rfl, fun h => ?_⟩, B0.out⟩
    simp at h <;> omega
set_option maxRecDepth 20000 in
set_option maxHeartbeats 1000000 in
/-- a ground compared with itself elsewhere -/
theorem same_any {B B2 : Nat} {wd : Int} {hv sv hv2 sv2 : Value} {hs : List (Int × Int)} {ss : List Int} {w : World} (hB : B ≤ w.heap.size) (hB2 : B2 ≤ w.heap.size) (hn : hs.length ≤ 1000) (hm : ss.length ≤ 1000) (hh : RS B w hv hs.length (spans hs)) (hss : RS B w sv ss.length (ints ss)) (hh2 : RS B2 w hv2 hs.length (spans hs)) (hss2 : RS B2 w sv2 ss.length (ints ss)) :
    Calls Try.prog 25 #[.agg #[.int .i64 wd, hv, sv], .agg #[.int .i64 wd, hv2, sv2]] w fun e w' => e = .returned (.bool true) ∧ Below w.heap.size w w' := by
  have HH := Lib.hid (And.intro (And.intro hh hss) (And.intro hh2 hss2))
  have HN := Lib.hid (And.intro (And.intro hB hB2) (And.intro hn hm))
  obtain ⟨ha, hcap, rfl, -⟩ := hh
  obtain ⟨sa, scap, rfl, -⟩ := hss
  obtain ⟨ha2, hcap2, rfl, -⟩ := hh2
  obtain ⟨sa2, scap2, rfl, -⟩ := hss2
  clear hn hm hB hB2
  go_enter Try.func25, Try.ntmps25
  have B0 := Lib.hid (((Below.refl w.heap.size w).alloc (Nat.le_refl _) (.cells #[.int .i64 wd, .slice ha hs.length hcap, .slice sa ss.length scap] 25)).alloc (by simp) (.cells #[.int .i64 wd, .slice ha2 hs.length hcap2, .slice sa2 ss.length scap2] 25))
  go_wp2_with fail
  refine (equal_spans HN.out.2.1 (HH.out.1.1.below (B0.out.mono HN.out.1.1)) (HH.out.2.1.below (B0.out.mono HN.out.1.2))).mono ?_
  rintro e w1 ⟨rfl, hb1⟩
  have B1 := Lib.hid (B0.out.trans (hb1.mono B0.out.size))
  have e1 : decide (hs = hs) = true := by simp
  rw [e1]
  have q1 := cell_on hb1 (show World.cell? (World.alloc (w.alloc _) _) ⟨w.heap.size, 2, none⟩ = some (.slice sa ss.length scap) by simp [go_sem])
  have q2 := cell_on hb1 (show World.cell? (World.alloc (w.alloc _) _) ⟨w.heap.size + 1, 2, none⟩ = some (.slice sa2 ss.length scap2) by simp [go_sem])
  clear hb1 e1
  go_wp2_with fail
  refine (equal_ints HN.out.2.2 (HH.out.1.2.below (B1.out.mono HN.out.1.1)) (HH.out.2.2.below (B1.out.mono HN.out.1.2))).mono ?_
  rintro e w2 ⟨rfl, hb2⟩
  have B2 := Lib.hid (B1.out.trans (hb2.mono B1.out.size))
  have e2 : decide (ss = ss) = true := by simp
  rw [e2]
  clear hb2 e2
  go_wp2
  go_ret
  exact ⟨rfl, B2.out⟩
end Go.Proofs.Ytdgibmgifgdpbaa
/-
  What a statement holds while it clones what it was given, in whatever order its own memory is laid.
-/
namespace Go.Proofs.Ytdgibmgifgdpbaa
open Go.RowKit Go.Shelf
open Lim

/-- three cells of a block are written -/
def set3 (W : World) (p : Nat) (x y z : Value) : World := ((W.setCell ⟨p, 0, none⟩ x).setCell ⟨p, 1, none⟩ y).setCell ⟨p, 2, none⟩ z
theorem set3_other {W : World} {p k : Nat} (x y z : Value) (h : k ≠ p) : (set3 W p x y z).heap[k]? = W.heap[k]? := by
  unfold set3
  rw [Below.heap_setCell _ _ _ k h, Below.heap_setCell _ _ _ k h, Below.heap_setCell _ _ _ k h]
theorem set3_same {W : World} {p : Nat} {a b c : Value} {t : TypeId} (x y z : Value) (h : W.heap[p]? = some (.cells #[a, b, c] t (0, 0))) : (set3 W p x y z).heap[p]? = some (.cells #[x, y, z] t (0, 0)) := by
  unfold set3
  rw [heap_setCell_self z (heap_setCell_self y (heap_setCell_self x h))]
  rfl
theorem owns_set3 {W : World} {p base e size n : Nat} {v : Value} {xs : List Value} {cs : Array Value} {t : TypeId} {fr : Nat × Nat} (x y z : Value) (h : W.ownsRow base e size v n xs) (hp : W.heap[p]? = some (.cells cs t fr)) (ht : t ≠ e) : (set3 W p x y z).ownsRow base e size v n xs := by
  refine ⟨h.1, ?_⟩
  rcases h.2 with hn | ⟨g, cap, cur, hv, hB, hg, r⟩
  · exact .inl hn
  · refine .inr ⟨g, cap, cur, hv, hB, (set3_other x y z ?_).trans hg, r⟩
    rintro rfl
    rw [hp] at hg
    cases hg
    exact ht rfl
theorem below_set3 {S : Nat} {w W : World} {p : Nat} (x y z : Value) (h : Below S w W) (hp : S ≤ p) : Below S w (set3 W p x y z) := ((h.setCell (p := ⟨p, 0, none⟩) hp _).setCell (p := ⟨p, 1, none⟩) hp _).setCell (p := ⟨p, 2, none⟩) hp _
theorem set3_size {W : World} {p : Nat} (x y z : Value) : (set3 W p x y z).heap.size = W.heap.size := by
  unfold set3; simp [World.setCell]
theorem cell_of_heap {W : World} {p : Nat} {a b c : Value} {t : TypeId} (h : W.heap[p]? = some (.cells #[a, b, c] t (0, 0))) :
    (W.cell? ⟨p, 0, none⟩ = some a ∧ W.cell? ⟨p, 1, none⟩ = some b ∧ W.cell? ⟨p, 2, none⟩ = some c) ∧ (W.frozen? ⟨p, 0, none⟩ = false ∧ W.frozen? ⟨p, 1, none⟩ = false ∧ W.frozen? ⟨p, 2, none⟩ = false) := by
  refine ⟨⟨?_, ?_, ?_⟩, ?_, ?_, ?_⟩ <;> simp [World.cell?, World.frozen?, h]
theorem store_set3 {P : Program} {W : World} {p : Nat} {a b c : Value} {t : TypeId} (x y z : Value) (hx : x.oneCell' = true) (hy : y.oneCell' = true) (hz : z.oneCell' = true) (h : W.heap[p]? = some (.cells #[a, b, c] t (0, 0))) :
    (storeCells ⟨p, 0, none⟩ [x, y, z]).run P W = .ok () (set3 W p x y z) := by
  obtain ⟨⟨h0, h1, h2⟩, f0, f1, f2⟩ := cell_of_heap h
  exact store_three x y z hx hy hz h0 h1 h2 f0 f1 f2

/-- a ground that the call has made -/
def Gr (W : World) (S : Nat) (wd : Int) (hs : List (Int × Int)) (ss : List Int) (x : Value) : Prop :=
  ∃ a c a' c', x = .agg #[.int .i64 wd, .slice a hs.length c, .slice a' ss.length c'] ∧ W.ownsRow S 54 2 (.slice a hs.length c) hs.length (spans hs) ∧ W.ownsRow S 3 1 (.slice a' ss.length c') ss.length (ints ss)
/-- a list of numbers that the call has made -/
def Gl (W : World) (S : Nat) (l : List Int) (x : Value) : Prop := ∃ a c, x = .slice a l.length c ∧ W.ownsRow S 3 1 x l.length (ints l)
/-- a place for a ground, and such a place with a ground in it -/
def Bx (W : World) (S : Nat) (t : TypeId) (x : Value) : Prop := ∃ p a b c, x = .pointer (some ⟨p, 0, none⟩) ∧ S < p ∧ W.heap[p]? = some (.cells #[a, b, c] t (0, 0))
def Fu (W : World) (S : Nat) (t : TypeId) (x y : Value) : Prop := ∃ p a b c, x = .pointer (some ⟨p, 0, none⟩) ∧ S < p ∧ y = .agg #[a, b, c] ∧ W.heap[p]? = some (.cells #[a, b, c] t (0, 0))
theorem Gr.grow {W W' : World} {S : Nat} {wd : Int} {hs : List (Int × Int)} {ss : List Int} {x : Value} (h : Gr W S wd hs ss x) (hb : Below W.heap.size W W') : Gr W' S wd hs ss x :=
  let ⟨a, c, a', c', h0, h1, h2⟩ := h; ⟨a, c, a', c', h0, owns_below h1 hb, owns_below h2 hb⟩
theorem Gl.grow {W W' : World} {S : Nat} {l : List Int} {x : Value} (h : Gl W S l x) (hb : Below W.heap.size W W') : Gl W' S l x := let ⟨a, c, h0, h1⟩ := h; ⟨a, c, h0, owns_below h1 hb⟩
theorem heap_grow {W W' : World} {p : Nat} {o : Obj} (h : W.heap[p]? = some o) (hb : Below W.heap.size W W') : W'.heap[p]? = some o := (hb.block p (Array.getElem?_eq_some_iff.1 h).1).trans h
theorem Bx.grow {W W' : World} {S : Nat} {t : TypeId} {x : Value} (h : Bx W S t x) (hb : Below W.heap.size W W') : Bx W' S t x := let ⟨p, a, b, c, h0, h1, h2⟩ := h; ⟨p, a, b, c, h0, h1, heap_grow h2 hb⟩
theorem Fu.grow {W W' : World} {S : Nat} {t : TypeId} {x y : Value} (h : Fu W S t x y) (hb : Below W.heap.size W W') : Fu W' S t x y := let ⟨p, a, b, c, h0, h1, h2, h3⟩ := h; ⟨p, a, b, c, h0, h1, h2, heap_grow h3 hb⟩
section
variable {W : World} {S p : Nat} {a b c : Value} {t : TypeId} (x y z : Value) (hp : W.heap[p]? = some (.cells #[a, b, c] t (0, 0)))
include hp
theorem Gr.set3 {wd : Int} {hs : List (Int × Int)} {ss : List Int} {v : Value} (h : Gr W S wd hs ss v) (h1 : t ≠ 54) (h2 : t ≠ 3) : Gr (set3 W p x y z) S wd hs ss v :=
  let ⟨a, c, a', c', h0, k1, k2⟩ := h; ⟨a, c, a', c', h0, owns_set3 x y z k1 hp h1, owns_set3 x y z k2 hp h2⟩
theorem Gl.set3 {l : List Int} {v : Value} (h : Gl W S l v) (h2 : t ≠ 3) : Gl (set3 W p x y z) S l v := let ⟨a, c, h0, h1⟩ := h; ⟨a, c, h0, owns_set3 x y z h1 hp h2⟩
theorem Bx.set3 {t' : TypeId} {v : Value} (h : Bx W S t' v) : Bx (set3 W p x y z) S t' v := by
  obtain ⟨q, a', b', c', h0, h1, h2⟩ := h
  by_cases e : q = p
  · subst e; exact ⟨_, _, _, _, h0, h1, set3_same x y z h2⟩
  · exact ⟨_, _, _, _, h0, h1, (set3_other x y z e).trans h2⟩
theorem Fu.set3 {t' : TypeId} {v u : Value} (h : Fu W S t' v u) (ht : t' ≠ t) : Fu (set3 W p x y z) S t' v u := by
  obtain ⟨q, a', b', c', h0, h1, h2, h3⟩ := h
  have e : q ≠ p := by
    rintro rfl
    rw [hp] at h3
    cases h3
    exact ht rfl
  exact ⟨_, _, _, _, h0, h1, h2, (set3_other x y z e).trans h3⟩
end

theorem DrainAns.unique {wd : Int} {hs : List (Int × Int)} {ss T : List Int} {er er' : Int} {l l' : List Int} (h : DrainAns wd hs ss T er l) (k : DrainAns wd hs ss T er' l') : er = er' ∧ l = l' := by
  rcases h with ⟨h0, rfl, rfl⟩ | ⟨h0, h1, rfl, rfl⟩ | ⟨h0, h1, h2, rfl, rfl⟩ | ⟨h0, h1, h2, rfl, a, b, ha, hb, rfl⟩ <;> rcases k with ⟨k0, rfl, rfl⟩ | ⟨k0, k1, rfl, rfl⟩ | ⟨k0, k1, k2, rfl, rfl⟩ | ⟨k0, k1, k2, rfl, a', b', ha', hb', rfl⟩ <;> first | exact ⟨rfl, rfl⟩ | exact absurd k0 h0 | exact absurd h0 k0 | exact absurd k1 h1 | exact absurd h1 k1 | (rw [h2] at k2; cases k2) | skip
  refine ⟨rfl, List.map_congr_left fun c hc => ?_⟩
  have hc' : c < (⟨wd.toNat, hs, ss⟩ : Gd).n := List.mem_range.1 hc
  unfold drainOf
  rw [ha.unique ha' hc', hb.unique hb' hc']
theorem PassAns.unique {wd sea : Int} {hs : List (Int × Int)} {ss : List Int} {er er' : Int} {l l' : List (Int × Int)} (h : PassAns wd hs ss sea er l) (k : PassAns wd hs ss sea er' l') : er = er' ∧ l = l' := by
  rcases h with ⟨h0, rfl, rfl⟩ | ⟨h0, h1, rfl, rfl⟩ | ⟨h0, h1, rfl, a, b, ha, hb, rfl⟩ <;> rcases k with ⟨k0, rfl, rfl⟩ | ⟨k0, k1, rfl, rfl⟩ | ⟨k0, k1, rfl, a', b', ha', hb', rfl⟩ <;> first | exact ⟨rfl, rfl⟩ | exact absurd k0 h0 | exact absurd h0 k0 | (rw [h1] at k1; cases k1) | skip
  refine ⟨rfl, List.map_congr_left fun c hc => ?_⟩
  have hc' : c < (⟨wd.toNat, hs, ss⟩ : Gd).n := by have h1 := (openErr_ok h0).hn; have h := List.mem_range.1 hc; show c < ss.length; simp [Gd.n] at h1; omega
  unfold pspan
  rw [ha.unique ha' hc', hb.unique hb' hc']
theorem DrainAns.length {wd : Int} {hs : List (Int × Int)} {ss T : List Int} {er : Int} {l : List Int} (h : DrainAns wd hs ss T er l) : l.length ≤ 100 := by
  rcases h with ⟨h0, rfl, rfl⟩ | ⟨h0, h1, rfl, rfl⟩ | ⟨h0, h1, h2, rfl, rfl⟩ | ⟨h0, h1, h2, rfl, a, b, ha, hb, rfl⟩ <;> simp
  have h := openErr_ok h0
  have h1 := h.n1
  have h2 := h.hn
  simp at *
  omega
theorem PassAns.length {wd sea : Int} {hs : List (Int × Int)} {ss : List Int} {er : Int} {l : List (Int × Int)} (h : PassAns wd hs ss sea er l) : l.length ≤ 100 := by
  rcases h with ⟨h0, rfl, rfl⟩ | ⟨h0, h1, rfl, rfl⟩ | ⟨h0, h1, rfl, a, b, ha, hb, rfl⟩ <;> simp
  have h := openErr_ok h0
  have h1 := h.n1
  have h2 := h.hn
  simp [Gd.n] at *
  omega
end Go.Proofs.Ytdgibmgifgdpbaa
