/-
  Parts of the proof, in the order in which they build: EwY.
-/
import Derived.Deep.CutRange
import Derived.Test.YtkjcnkkmhkcddaaA43
set_option linter.unusedVariables false
set_option linter.unusedSimpArgs false
namespace Go.Proofs.Ytkjcnkkmhkcddaa
open Go.RowKit Go.Shelf
open Lim

attribute [local go_sem] Oper.semAt_some

set_option maxRecDepth 20000 in
set_option maxHeartbeats 1000000 in
/-- a map of its own -/
theorem lClone_any {B : Nat} {wd : Int} {ov : Value} {os : List Int} {w : World} (hn : os.length ≤ 1000) (hB : B ≤ w.heap.size) (hv : RS B w ov os.length (ints os)) :
    Calls Try.prog 13 #[.agg #[.int .i64 wd, ov]] w fun e w' => ∃ v, e = .returned (.agg #[.int .i64 wd, v]) ∧ w'.ownsRow w.heap.size 3 1 v os.length (ints os) ∧ Below w.heap.size w w' := by
  have HV := Lib.hid (And.intro hB hv)
  obtain ⟨oa, oc, rfl, -⟩ := hv
  obtain ⟨n, hnn⟩ : ∃ n, n = os.length := ⟨_, rfl⟩
  have HN := Lib.hid hnn
  rw [← hnn]
  have f0 : ((w.alloc (.cells #[.int .i64 wd, .slice oa n oc] 24)).alloc (.cells #[.int .i64 0, .slice none 0 0] 24)).cell? ⟨w.heap.size, 0, none⟩ = some (.int .i64 wd) := by simp [go_sem]
  have f1 : ((w.alloc (.cells #[.int .i64 wd, .slice oa n oc] 24)).alloc (.cells #[.int .i64 0, .slice none 0 0] 24)).cell? ⟨w.heap.size, 1, none⟩ = some (.slice oa n oc) := by simp [go_sem]
  have f2 : ((w.alloc (.cells #[.int .i64 wd, .slice oa n oc] 24)).alloc (.cells #[.int .i64 0, .slice none 0 0] 24)).cell? ⟨w.heap.size + 1, 0, none⟩ = some (.int .i64 0) := by simp [go_sem]
  have f3 : ((w.alloc (.cells #[.int .i64 wd, .slice oa n oc] 24)).alloc (.cells #[.int .i64 0, .slice none 0 0] 24)).cell? ⟨w.heap.size + 1, 1, none⟩ = some (.slice none 0 0) := by simp [go_sem]
  have f4 : ((w.alloc (.cells #[.int .i64 wd, .slice oa n oc] 24)).alloc (.cells #[.int .i64 0, .slice none 0 0] 24)).frozen? ⟨w.heap.size + 1, 0, none⟩ = false := by simp [go_sem]
  have f5 : ((w.alloc (.cells #[.int .i64 wd, .slice oa n oc] 24)).alloc (.cells #[.int .i64 0, .slice none 0 0] 24)).frozen? ⟨w.heap.size + 1, 1, none⟩ = false := by simp [go_sem]
  have HB : Hid (Below w.heap.size w ((w.alloc (.cells #[.int .i64 wd, .slice oa n oc] 24)).alloc (.cells #[.int .i64 0, .slice none 0 0] 24))) := Lib.hid (((Below.refl _ w).alloc (Nat.le_refl _) _).alloc (by simp) _)
  have HCL : Hid (∀ W, Below w.heap.size w W → Calls Try.prog 36 #[.slice oa n oc] W fun e w' => ∃ v', e = .returned v' ∧ w'.ownsRow W.heap.size 3 1 v' n (ints os) ∧ Below W.heap.size W w') := Lib.hid fun W hW => by
    rw [hnn]; exact kclone_ints hn (HV.out.2.below (hW.mono HV.out.1))
  clear hnn hn hB
  go_enter Try.func13, Try.ntmps13
  go_upto_region 1 with (fail)
  generalize (w.alloc (.cells #[.int .i64 wd, .slice oa n oc] 24)).alloc (.cells #[.int .i64 0, .slice none 0 0] 24) = w1 at HB f0 f1 f2 f3 f4 f5 ⊢
  obtain ⟨q, hq⟩ : ∃ q, q = w.heap.size + 1 := ⟨_, rfl⟩
  have HQ := Lib.hid hq
  rw [← hq] at f2 f3 f4 f5 ⊢
  clear hq
  have hC : (fun W => W.cell? ⟨w.heap.size, 0, none⟩ = some (.int .i64 wd) ∧ W.cell? ⟨w.heap.size, 1, none⟩ = some (.slice oa n oc) ∧ W.cell? ⟨q, 0, none⟩ = some (.int .i64 0) ∧ W.cell? ⟨q, 1, none⟩ = some (.slice none 0 0) ∧ W.frozen? ⟨q, 0, none⟩ = false ∧ W.frozen? ⟨q, 1, none⟩ = false) w1.drew := ⟨f0, f1, f2, f3, f4, f5⟩
  clear f0 f1 f2 f3 f4 f5
  refine Lim.regC' (fun W => W.cell? ⟨w.heap.size, 0, none⟩ = some (.int .i64 wd) ∧ W.cell? ⟨w.heap.size, 1, none⟩ = some (.slice oa n oc) ∧ W.cell? ⟨q, 0, none⟩ = some (.int .i64 0) ∧ W.cell? ⟨q, 1, none⟩ = some (.slice none 0 0) ∧ W.frozen? ⟨q, 0, none⟩ = false ∧ W.frozen? ⟨q, 1, none⟩ = false) [6] #[false, false, false, false, false, false, false] (by kernel_rfl) rfl ?_
  refine Lim.stepR 0 (fun _ => trivial) rfl (by kernel_rfl) (fun _ _ _ _ h => h) hC rfl ?_; apply Exists.intro; refine ⟨?_, ?_⟩
  · rintro w ⟨r1, r2, r3, r4, r5, r6⟩; go_simp; try with_reducible rfl
  simp only [Act.put, List.setIfInBounds_toArray, List.set_cons_succ, List.set_cons_zero]
  refine Lim.stepR 1 (fun _ => trivial) rfl (by kernel_rfl) (fun _ _ _ _ h => h) hC rfl ?_; apply Exists.intro; refine ⟨?_, ?_⟩
  · rintro w ⟨r1, r2, r3, r4, r5, r6⟩; go_simp; try with_reducible rfl
  simp only [Act.put, List.setIfInBounds_toArray, List.set_cons_succ, List.set_cons_zero]
  refine Lim.stepR 2 (fun _ => trivial) rfl (by kernel_rfl) (fun _ _ _ _ h => h) hC rfl ?_; apply Exists.intro; refine ⟨?_, ?_⟩
  · rintro w ⟨r1, r2, r3, r4, r5, r6⟩; go_simp; try with_reducible rfl
  simp only [Act.put, List.setIfInBounds_toArray, List.set_cons_succ, List.set_cons_zero]
  refine Lim.stepR 3 (fun _ => trivial) rfl (by kernel_rfl) (fun _ _ _ _ h => h) hC rfl ?_; apply Exists.intro; refine ⟨?_, ?_⟩
  · rintro w ⟨r1, r2, r3, r4, r5, r6⟩; go_simp; try with_reducible rfl
  simp only [Act.put, List.setIfInBounds_toArray, List.set_cons_succ, List.set_cons_zero]
  refine Lim.stepE 4 (fun _ => trivial) rfl (by kernel_rfl) rfl (fun K hK => ?_)   -- E call
  go_simp
  refine ⟨rfl, (callsIn_wide.2 (HCL.out _ HB.out.drew)).mono ?_⟩
  rintro e w9 ⟨v', rfl, ho, hb9⟩
  obtain ⟨ga, gc, rfl, -⟩ := RS.of_owns ho
  have HO := Lib.hid ho
  have HB9 := Lib.hid (HB.out.drew.trans (hb9.mono HB.out.drew.size))
  have HBW : Hid (w.heap.size ≤ w1.heap.size ∧ q < w1.heap.size) := Lib.hid ⟨HB.out.size, World.block_lt_of_cell? _ _ hC.2.2.1⟩
  have hC9 : (fun W => W.cell? ⟨w.heap.size, 0, none⟩ = some (.int .i64 wd) ∧ W.cell? ⟨w.heap.size, 1, none⟩ = some (.slice oa n oc) ∧ W.cell? ⟨q, 0, none⟩ = some (.int .i64 0) ∧ W.cell? ⟨q, 1, none⟩ = some (.slice none 0 0) ∧ W.frozen? ⟨q, 0, none⟩ = false ∧ W.frozen? ⟨q, 1, none⟩ = false) w9 := ⟨hb9.on hC.1, hb9.on hC.2.1, hb9.on hC.2.2.1, hb9.on hC.2.2.2.1, frozen_on hb9 hC.2.2.1 hC.2.2.2.2.1, frozen_on hb9 hC.2.2.2.1 hC.2.2.2.2.2⟩
  refine hK _ _ hC9 ?_
  clear hb9 ho
  simp only [Act.put, List.setIfInBounds_toArray, List.set_cons_succ, List.set_cons_zero]
  refine Lim.stepR 5 (fun _ => trivial) rfl (by kernel_rfl) (fun _ _ _ _ h => h) hC9 rfl ?_; apply Exists.intro; refine ⟨?_, ?_⟩
  · rintro w ⟨r1, r2, r3, r4, r5, r6⟩; go_simp; try with_reducible rfl
  simp only [Act.put, List.setIfInBounds_toArray, List.set_cons_succ, List.set_cons_zero]
  refine Lim.stepX 6 (fun _ => trivial) rfl (by kernel_rfl) rfl rfl (fun K hK => ?_)   -- E store
  obtain ⟨c0, c1, c2, c3, c4, c5⟩ := hC9
  go_simp
  have hs1 := setCell_same w9 (.int .i64 wd) c2
  have hs2 := (setCell_off w9 (p := q) (i := 0) (j := 1) (.int .i64 wd) (by omega)).trans c3
  have hs3 := setCell_same _ (.slice ga n gc) hs2
  have hs4 := (setCell_off (w9.setCell ⟨q, 0, none⟩ (.int .i64 wd)) (p := q) (i := 1) (j := 0) (.slice ga n gc) (by omega)).trans hs1
  have HE : Hid (((w9.setCell ⟨q, 0, none⟩ (.int .i64 wd)).setCell ⟨q, 1, none⟩ (.slice ga n gc)).cell? ⟨q, 0, none⟩ = some (.int .i64 wd) ∧ ((w9.setCell ⟨q, 0, none⟩ (.int .i64 wd)).setCell ⟨q, 1, none⟩ (.slice ga n gc)).cell? ⟨q, 1, none⟩ = some (.slice ga n gc) ∧ ((w9.setCell ⟨q, 0, none⟩ (.int .i64 wd)).setCell ⟨q, 1, none⟩ (.slice ga n gc)).ownsRow w.heap.size 3 1 (.slice ga n gc) n (ints os) ∧ Below w.heap.size w ((w9.setCell ⟨q, 0, none⟩ (.int .i64 wd)).setCell ⟨q, 1, none⟩ (.slice ga n gc))) := Lib.hid (by
    have h0 := HBW.out
    have hq := HQ.out
    have ho := HO.out
    have hz := owns_sep (T := fun k => k = q) (owns_sep (T := fun k => k = q) ho (Sep.set w9 q 0 (.int .i64 wd)) (fun k hk => by rw [hk]; exact h0.2)) (Sep.set _ q 1 (.slice ga n gc)) (fun k hk => by rw [hk]; exact h0.2)
    exact ⟨hs4, hs3, owns_mono hz h0.1, (HB9.out.setCell (p := ⟨q, 0, none⟩) (by show w.heap.size ≤ q; omega) _).setCell (p := ⟨q, 1, none⟩) (by show w.heap.size ≤ q; omega) _⟩)
  clear hs1 hs2 hs3 hs4
  refine hK _ _ ?_
  simp only [Act.put, List.setIfInBounds_toArray, List.set_cons_succ, List.set_cons_zero]
  refine Lim.segC (fun _ => True) [] ?_
  refine Lim.stepD (by kernel_rfl) ?_
  clear hC
  go_wp2_with fail
  refine bodyPost_ret (v := .agg #[.int .i64 wd, .slice ga n gc]) (results_mid rfl _ _ q 0 [.int .i64 wd, .slice ga n gc] _ rfl (two_range HE.out.1 HE.out.2.1) Try.underlying24 rfl (show (Try.prog.info? 24).map (·.size) = some 2 by kernel_rfl)) rfl ?_
  exact ⟨_, rfl, HE.out.2.2.1, HE.out.2.2.2⟩
end Go.Proofs.Ytkjcnkkmhkcddaa
