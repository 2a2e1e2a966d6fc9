/-
  Parts of the proof, in the order in which they build: EwR.
-/
import Derived.Deep.CutRange
import Derived.Test.YtkjcnkkmhkcddaaA42
set_option linter.unusedVariables false
set_option linter.unusedSimpArgs false
namespace Go.Proofs.Ytkjcnkkmhkcddaa
open Go.RowKit Go.Shelf
open Lim

attribute [local go_sem] Oper.semAt_some

set_option maxRecDepth 20000 in
set_option maxHeartbeats 8000000 in
theorem awake_any (w0 : World) : Calls Try.prog 12 #[] w0 fun e w' => e = .returned (.bool true) ∧ Below w0.heap.size w0 w' := by
 obtain ⟨w, hw⟩ : ∃ w, w = w0 := ⟨_, rfl⟩
 rw [← hw]
 clear hw
 have HB : Hid (Below w.heap.size w w) := Lib.hid (Below.refl _ w)
 go_enter Try.func12, Try.ntmps12
 go_wp2_with fail
 refine (Ring_any 1 _).mono ?_
 rintro e w1 ⟨g, rfl, hr, hb⟩
 have hs1 : Below w.heap.size w w1 := hb
 have HB : Hid (Below w.heap.size w w1) := Lib.hid (HB.out.trans (hs1.mono HB.out.size))
 clear hb hs1
 have HR := Lib.hid hr
 clear hr
 go_wp2_with fail
 refine (c_aro1 HR.out).mono ?_
 rintro e w2 ⟨⟨av, rfl, hv⟩, hb⟩
 have hs2 : Below w1.heap.size w1 w2 := hb
 have HB : Hid (Below w.heap.size w w2) := Lib.hid (HB.out.trans (hs2.mono HB.out.size))
 clear hb hs2
 have HA := Lib.hid hv
 have o1 := RS.one hv
 clear hv HR
 go_wp2_with fail
 refine (Ring_any 1 _).mono ?_
 rintro e w3 ⟨g, rfl, hr, hb⟩
 have hs3 : Below w2.heap.size w2 w3 := hb
 have HB : Hid (Below w.heap.size w w3) := Lib.hid (HB.out.trans (hs3.mono HB.out.size))
 have HA := Lib.hid (RS.on HA.out hs3)
 clear hb hs3
 have HR := Lib.hid hr
 clear hr
 go_wp2_with fail
 refine (c_dep1 HR.out).mono ?_
 rintro e w4 ⟨⟨dv, rfl, hv⟩, hb⟩
 have hs4 : Below w3.heap.size w3 w4 := hb
 have HB : Hid (Below w.heap.size w w4) := Lib.hid (HB.out.trans (hs4.mono HB.out.size))
 have HA := Lib.hid (RS.on HA.out hs4)
 clear hb hs4
 have HD := Lib.hid hv
 have o2 := RS.one hv
 clear hv HR
 go_wp2_with fail
 refine (Ring_any 1 _).mono ?_
 rintro e w5 ⟨g, rfl, hr, hb⟩
 have hs5 : Below w4.heap.size w4 w5 := hb
 have HB : Hid (Below w.heap.size w w5) := Lib.hid (HB.out.trans (hs5.mono HB.out.size))
 have HA := Lib.hid (RS.on HA.out hs5)
 have HD := Lib.hid (RS.on HD.out hs5)
 clear hb hs5
 have HR := Lib.hid hr
 clear hr
 go_wp2_with fail
 refine (c_clr1 HR.out).mono ?_
 rintro e w6 ⟨⟨mg, mc, pv, rfl, hv, hp⟩, hb⟩
 have hs6 : Below w5.heap.size w5 w6 := hb
 have HB : Hid (Below w.heap.size w w6) := Lib.hid (HB.out.trans (hs6.mono HB.out.size))
 have HA := Lib.hid (RS.on HA.out hs6)
 have HD := Lib.hid (RS.on HD.out hs6)
 clear hb hs6
 have HM := Lib.hid hv
 have HP := Lib.hid hp
 have o4 := RS.one hp
 clear hv hp HR
 go_upto_region 4 with (fail)
 have hal : Below w6.heap.size w6 (w6.alloc (.cells #[.int .i64 5, .slice (some ⟨mg, 0, none⟩) 25 mc] 24)) := (Below.refl _ _).alloc (Nat.le_refl _) _
 have c5 : (w6.alloc (.cells #[.int .i64 5, .slice (some ⟨mg, 0, none⟩) 25 mc] 24)).cell? ⟨w6.heap.size, 1, none⟩ = some (.slice (some ⟨mg, 0, none⟩) 25 mc) := by simp [go_sem]
 generalize hW : w6.alloc (.cells #[.int .i64 5, .slice (some ⟨mg, 0, none⟩) 25 mc] 24) = w7 at hal c5 ⊢
 obtain ⟨q5, hq5⟩ : ∃ q, q = w6.heap.size := ⟨_, rfl⟩
 rw [← hq5] at c5 ⊢
 have hb := hal
 clear hq5 hal hW
 have hs7 : Below w6.heap.size w6 w7 := hb
 have HB : Hid (Below w.heap.size w w7) := Lib.hid (HB.out.trans (hs7.mono HB.out.size))
 have HA := Lib.hid (RS.on HA.out hs7)
 have HD := Lib.hid (RS.on HD.out hs7)
 have HM := Lib.hid (RS.on HM.out hs7)
 have HP := Lib.hid (RS.on HP.out hs7)
 clear hb hs7
 go_wp2_with fail
 refine (Ring_any 1 _).mono ?_
 rintro e w8 ⟨g, rfl, hr, hb⟩
 have hs8 : Below w7.heap.size w7 w8 := hb
 have HB : Hid (Below w.heap.size w w8) := Lib.hid (HB.out.trans (hs8.mono HB.out.size))
 have HA := Lib.hid (RS.on HA.out hs8)
 have HD := Lib.hid (RS.on HD.out hs8)
 have HM := Lib.hid (RS.on HM.out hs8)
 have HP := Lib.hid (RS.on HP.out hs8)
 replace c5 := hs8.on c5
 clear hb hs8
 have HR := Lib.hid hr
 clear hr
 go_wp2_with fail
 refine (c_giv1 HR.out).mono ?_
 rintro e w9 ⟨⟨gg, gc, rfl, cg⟩, hb⟩
 have hs9 : Below w8.heap.size w8 w9 := hb
 have HB : Hid (Below w.heap.size w w9) := Lib.hid (HB.out.trans (hs9.mono HB.out.size))
 have HA := Lib.hid (RS.on HA.out hs9)
 have HD := Lib.hid (RS.on HD.out hs9)
 have HM := Lib.hid (RS.on HM.out hs9)
 have HP := Lib.hid (RS.on HP.out hs9)
 replace c5 := hs9.on c5
 clear hb hs9
 clear HR
 go_upto_region 5 with (fail)
 have hal : Below w9.heap.size w9 (w9.alloc (.cells #[.int .i64 5, .slice (some ⟨gg, 0, none⟩) 25 gc] 24)) := (Below.refl _ _).alloc (Nat.le_refl _) _
 have c8 : (w9.alloc (.cells #[.int .i64 5, .slice (some ⟨gg, 0, none⟩) 25 gc] 24)).cell? ⟨w9.heap.size, 1, none⟩ = some (.slice (some ⟨gg, 0, none⟩) 25 gc) := by simp [go_sem]
 generalize hW : w9.alloc (.cells #[.int .i64 5, .slice (some ⟨gg, 0, none⟩) 25 gc] 24) = w10 at hal c8 ⊢
 obtain ⟨q8, hq8⟩ : ∃ q, q = w9.heap.size := ⟨_, rfl⟩
 rw [← hq8] at c8 ⊢
 have hb := hal
 clear hq8 hal hW
 have hs10 : Below w9.heap.size w9 w10 := hb
 have HB : Hid (Below w.heap.size w w10) := Lib.hid (HB.out.trans (hs10.mono HB.out.size))
 have HA := Lib.hid (RS.on HA.out hs10)
 have HD := Lib.hid (RS.on HD.out hs10)
 have HM := Lib.hid (RS.on HM.out hs10)
 have HP := Lib.hid (RS.on HP.out hs10)
 replace c5 := hs10.on c5
 replace cg := hs10.on cg
 clear hb hs10
 have hC : (fun W => W.cell? ⟨q5, 1, none⟩ = some (.slice (some ⟨mg, 0, none⟩) 25 mc) ∧ W.cell? ⟨q8, 1, none⟩ = some (.slice (some ⟨gg, 0, none⟩) 25 gc) ∧ W.cell? ⟨gg, 12, none⟩ = some (.int .i64 1)) w10.drew := ⟨c5, c8, cg⟩
 have HS : Hid (Below w10.heap.size w10 w10.drew) := Lib.hid (Below.refl _ _).drew
 have HC0 := Lib.hid hC
 refine Lim.regC' (fun W => W.cell? ⟨q5, 1, none⟩ = some (.slice (some ⟨mg, 0, none⟩) 25 mc) ∧ W.cell? ⟨q8, 1, none⟩ = some (.slice (some ⟨gg, 0, none⟩) 25 gc) ∧ W.cell? ⟨gg, 12, none⟩ = some (.int .i64 1)) [] #[false, false, false, false, false, false, false, false, false, false, false, false, false, false, false, false, false, false, false, false, false, false, false, false, false, false, false, false, false, false, false, false, false, false, false, false, false, false, false, false, false, false, false, false, false, false, false, false, false, false, false, false] (by kernel_rfl) rfl ?_
 refine Lim.stepR 0 (fun _ => trivial) rfl (by kernel_rfl) (fun _ _ _ _ h => h) hC rfl ?_; apply Exists.intro; refine ⟨?_, ?_⟩
 ·rintro w ⟨r1, r2, r3⟩; go_simp; try with_reducible rfl
 simp only [Act.put, List.setIfInBounds_toArray, List.set_cons_succ, List.set_cons_zero]
 refine Lim.stepR 1 (fun _ => trivial) rfl (by kernel_rfl) (fun _ _ _ _ h => h) hC rfl ?_; apply Exists.intro; refine ⟨?_, ?_⟩
 ·rintro w ⟨r1, r2, r3⟩; go_simp; try with_reducible rfl
 simp only [Act.put, List.setIfInBounds_toArray, List.set_cons_succ, List.set_cons_zero]
 refine Lim.stepR 2 (fun _ => trivial) rfl (by kernel_rfl) (fun _ _ _ _ h => h) hC rfl ?_; apply Exists.intro; refine ⟨?_, ?_⟩
 ·rintro w ⟨r1, r2, r3⟩; go_simp; try with_reducible rfl
 simp only [Act.put, List.setIfInBounds_toArray, List.set_cons_succ, List.set_cons_zero]
 refine Lim.stepR 3 (fun _ => trivial) rfl (by kernel_rfl) (fun _ _ _ _ h => h) hC rfl ?_; apply Exists.intro; refine ⟨?_, ?_⟩
 ·rintro w ⟨r1, r2, r3⟩; go_simp; try with_reducible rfl
 simp only [Act.put, List.setIfInBounds_toArray, List.set_cons_succ, List.set_cons_zero]
 refine Lim.stepR 4 (fun _ => trivial) rfl (by kernel_rfl) (fun _ _ _ _ h => h) hC rfl ?_; apply Exists.intro; refine ⟨?_, ?_⟩
 ·rintro w ⟨r1, r2, r3⟩; go_simp; try with_reducible rfl
 simp only [Act.put, List.setIfInBounds_toArray, List.set_cons_succ, List.set_cons_zero]
 refine Lim.stepR 5 (fun _ => trivial) rfl (by kernel_rfl) (fun _ _ _ _ h => h) hC rfl ?_; apply Exists.intro; refine ⟨?_, ?_⟩
 ·rintro w ⟨r1, r2, r3⟩; go_simp; try with_reducible rfl
 simp only [Act.put, List.setIfInBounds_toArray, List.set_cons_succ, List.set_cons_zero]
 refine Lim.stepR 6 (fun _ => trivial) rfl (by kernel_rfl) (fun _ _ _ _ h => h) hC rfl ?_; apply Exists.intro; refine ⟨?_, ?_⟩
 ·rintro w ⟨r1, r2, r3⟩; go_simp; try with_reducible rfl
 simp only [Act.put, List.setIfInBounds_toArray, List.set_cons_succ, List.set_cons_zero]
 refine Lim.stepR 7 (fun _ => trivial) rfl (by kernel_rfl) (fun _ _ _ _ h => h) hC rfl ?_; apply Exists.intro; refine ⟨?_, ?_⟩
 ·rintro w ⟨r1, r2, r3⟩; go_simp; try with_reducible rfl
 simp only [Act.put, List.setIfInBounds_toArray, List.set_cons_succ, List.set_cons_zero]
 refine Lim.stepR 8 (fun _ => trivial) rfl (by kernel_rfl) (fun _ _ _ _ h => h) hC rfl ?_; apply Exists.intro; refine ⟨?_, ?_⟩
 ·rintro w ⟨r1, r2, r3⟩; go_simp; try with_reducible rfl
 simp only [Act.put, List.setIfInBounds_toArray, List.set_cons_succ, List.set_cons_zero]
 refine Lim.stepR 9 (fun _ => trivial) rfl (by kernel_rfl) (fun _ _ _ _ h => h) hC rfl ?_; apply Exists.intro; refine ⟨?_, ?_⟩
 ·rintro w ⟨r1, r2, r3⟩; go_simp; try with_reducible rfl
 simp only [Act.put, List.setIfInBounds_toArray, List.set_cons_succ, List.set_cons_zero]
 refine Lim.stepR 10 (fun _ => trivial) rfl (by kernel_rfl) (fun _ _ _ _ h => h) hC rfl ?_; apply Exists.intro; refine ⟨?_, ?_⟩
 ·rintro w ⟨r1, r2, r3⟩; go_simp; try with_reducible rfl
 simp only [Act.put, List.setIfInBounds_toArray, List.set_cons_succ, List.set_cons_zero]
 refine Lim.stepR 11 (fun _ => trivial) rfl (by kernel_rfl) (fun _ _ _ _ h => h) hC rfl ?_; apply Exists.intro; refine ⟨?_, ?_⟩
 ·rintro w ⟨r1, r2, r3⟩; go_simp; try with_reducible rfl
 simp only [Act.put, List.setIfInBounds_toArray, List.set_cons_succ, List.set_cons_zero]
 refine Lim.stepR 12 (fun _ => trivial) rfl (by kernel_rfl) (fun _ _ _ _ h => h) hC rfl ?_; apply Exists.intro; refine ⟨?_, ?_⟩
 ·rintro w ⟨r1, r2, r3⟩; go_simp; try with_reducible rfl
 simp only [Act.put, List.setIfInBounds_toArray, List.set_cons_succ, List.set_cons_zero]
 refine Lim.stepR 13 (fun _ => trivial) rfl (by kernel_rfl) (fun _ _ _ _ h => h) hC rfl ?_; apply Exists.intro; refine ⟨?_, ?_⟩
 ·rintro w ⟨r1, r2, r3⟩; go_simp; try with_reducible rfl
 simp only [Act.put, List.setIfInBounds_toArray, List.set_cons_succ, List.set_cons_zero]
 refine Lim.stepR 14 (fun _ => trivial) rfl (by kernel_rfl) (fun _ _ _ _ h => h) hC rfl ?_; apply Exists.intro; refine ⟨?_, ?_⟩
 ·rintro w ⟨r1, r2, r3⟩; go_simp; try with_reducible rfl
 simp only [Act.put, List.setIfInBounds_toArray, List.set_cons_succ, List.set_cons_zero]
 refine Lim.stepR 15 (fun _ => trivial) rfl (by kernel_rfl) (fun _ _ _ _ h => h) hC rfl ?_; apply Exists.intro; refine ⟨?_, ?_⟩
 ·rintro w ⟨r1, r2, r3⟩; go_simp; try with_reducible rfl
 simp only [Act.put, List.setIfInBounds_toArray, List.set_cons_succ, List.set_cons_zero]
 refine Lim.stepE 16 (fun _ => trivial) rfl (by kernel_rfl) rfl (fun K hK => ?_)   -- E buildSlice
 go_simp
 have hbn : Below w10.heap.size w10 ((w10.alloc (.cells #[.int .i64 (-1), .int .i64 0, .int .i64 1] 3)).drew) := ((Below.refl _ w10).alloc (Nat.le_refl _) _).drew
 have hC16 : (fun W => W.cell? ⟨q5, 1, none⟩ = some (.slice (some ⟨mg, 0, none⟩) 25 mc) ∧ W.cell? ⟨q8, 1, none⟩ = some (.slice (some ⟨gg, 0, none⟩) 25 gc) ∧ W.cell? ⟨gg, 12, none⟩ = some (.int .i64 1)) ((w10.alloc (.cells #[.int .i64 (-1), .int .i64 0, .int .i64 1] 3)).drew) := ⟨hbn.on hC.1, hbn.on hC.2.1, hbn.on hC.2.2⟩
 have HNW : Hid (RS ((w10.alloc (.cells #[.int .i64 (-1), .int .i64 0, .int .i64 1] 3)).drew).heap.size ((w10.alloc (.cells #[.int .i64 (-1), .int .i64 0, .int .i64 1] 3)).drew) (.slice (some ⟨w10.heap.size, 0, none⟩) 3 3) 3 (ints [-1, 0, 1])) := Lib.hid (RS.on (rs_new (w := w10) (n := 3) (t := 3) (ints [-1, 0, 1]) rfl) (Below.refl _ _).drew)
 replace HA := Lib.hid (RS.on HA.out hbn)
 replace HD := Lib.hid (RS.on HD.out hbn)
 replace HM := Lib.hid (RS.on HM.out hbn)
 replace HP := Lib.hid (RS.on HP.out hbn)
 replace HB := Lib.hid (HB.out.trans (hbn.mono HB.out.size))
 refine hK _ _ hC16 ?_
 clear hbn
 simp only [Act.put, List.setIfInBounds_toArray, List.set_cons_succ, List.set_cons_zero]
 refine Lim.stepE 17 (fun _ => trivial) rfl (by kernel_rfl) rfl (fun K hK => ?_)   -- E call
 go_simp
 refine ⟨rfl, (callsIn_wide.2 (c_eq (l := [-1, 0, 1]) (by decide) rfl HA.out HNW.out)).mono ?_⟩
 rintro e w11 ⟨rfl, hb⟩
 have hC17 : (fun W => W.cell? ⟨q5, 1, none⟩ = some (.slice (some ⟨mg, 0, none⟩) 25 mc) ∧ W.cell? ⟨q8, 1, none⟩ = some (.slice (some ⟨gg, 0, none⟩) 25 gc) ∧ W.cell? ⟨gg, 12, none⟩ = some (.int .i64 1)) w11 := ⟨hb.on hC16.1, hb.on hC16.2.1, hb.on hC16.2.2⟩
 replace HA := Lib.hid (RS.on HA.out hb)
 replace HD := Lib.hid (RS.on HD.out hb)
 replace HM := Lib.hid (RS.on HM.out hb)
 replace HP := Lib.hid (RS.on HP.out hb)
 replace HB := Lib.hid (HB.out.trans (hb.mono HB.out.size))
 refine hK _ _ hC17 ?_
 clear hb HNW hC16
 simp only [Act.put, List.setIfInBounds_toArray, List.set_cons_succ, List.set_cons_zero]
 refine Lim.stepR 18 (fun _ => trivial) rfl (by kernel_rfl) (fun _ _ _ _ h => h) hC17 rfl ?_; apply Exists.intro; refine ⟨?_, ?_⟩
 ·rintro w ⟨r1, r2, r3⟩; go_simp; try with_reducible rfl
 simp only [Act.put, List.setIfInBounds_toArray, List.set_cons_succ, List.set_cons_zero]
 refine Lim.stepR 19 (fun _ => trivial) rfl (by kernel_rfl) (fun _ _ _ _ h => h) hC17 rfl ?_; apply Exists.intro; refine ⟨?_, ?_⟩
 ·rintro w ⟨r1, r2, r3⟩; go_simp; try with_reducible rfl
 simp only [Act.put, List.setIfInBounds_toArray, List.set_cons_succ, List.set_cons_zero]
 refine Lim.stepR 20 (fun _ => trivial) rfl (by kernel_rfl) (fun _ _ _ _ h => h) hC17 rfl ?_; apply Exists.intro; refine ⟨?_, ?_⟩
 ·rintro w ⟨r1, r2, r3⟩; go_simp; try with_reducible rfl
 simp only [Act.put, List.setIfInBounds_toArray, List.set_cons_succ, List.set_cons_zero]
 refine Lim.stepR 21 (fun _ => trivial) rfl (by kernel_rfl) (fun _ _ _ _ h => h) hC17 rfl ?_; apply Exists.intro; refine ⟨?_, ?_⟩
 ·rintro w ⟨r1, r2, r3⟩; go_simp; try with_reducible rfl
 simp only [Act.put, List.setIfInBounds_toArray, List.set_cons_succ, List.set_cons_zero]
 refine Lim.stepE 22 (fun _ => trivial) rfl (by kernel_rfl) rfl (fun K hK => ?_)   -- E buildSlice
 go_simp
 have hbn : Below w11.heap.size w11 ((w11.alloc (.cells #[.int .i64 0, .int .i64 1, .int .i64 2] 3))) := ((Below.refl _ w11).alloc (Nat.le_refl _) _)
 have hC22 : (fun W => W.cell? ⟨q5, 1, none⟩ = some (.slice (some ⟨mg, 0, none⟩) 25 mc) ∧ W.cell? ⟨q8, 1, none⟩ = some (.slice (some ⟨gg, 0, none⟩) 25 gc) ∧ W.cell? ⟨gg, 12, none⟩ = some (.int .i64 1)) ((w11.alloc (.cells #[.int .i64 0, .int .i64 1, .int .i64 2] 3))) := ⟨hbn.on hC17.1, hbn.on hC17.2.1, hbn.on hC17.2.2⟩
 have HNW : Hid (RS ((w11.alloc (.cells #[.int .i64 0, .int .i64 1, .int .i64 2] 3))).heap.size ((w11.alloc (.cells #[.int .i64 0, .int .i64 1, .int .i64 2] 3))) (.slice (some ⟨w11.heap.size, 0, none⟩) 3 3) 3 (ints [0, 1, 2])) := Lib.hid (rs_new (w := w11) (n := 3) (t := 3) (ints [0, 1, 2]) rfl)
 replace HA := Lib.hid (RS.on HA.out hbn)
 replace HD := Lib.hid (RS.on HD.out hbn)
 replace HM := Lib.hid (RS.on HM.out hbn)
 replace HP := Lib.hid (RS.on HP.out hbn)
 replace HB := Lib.hid (HB.out.trans (hbn.mono HB.out.size))
 refine hK _ _ hC22 ?_
 clear hbn
 simp only [Act.put, List.setIfInBounds_toArray, List.set_cons_succ, List.set_cons_zero]
 refine Lim.stepE 23 (fun _ => trivial) rfl (by kernel_rfl) rfl (fun K hK => ?_)   -- E call
 go_simp
 refine ⟨rfl, (callsIn_wide.2 (c_eq (l := [0, 1, 2]) (by decide) rfl HD.out HNW.out)).mono ?_⟩
 rintro e w12 ⟨rfl, hb⟩
 have hC23 : (fun W => W.cell? ⟨q5, 1, none⟩ = some (.slice (some ⟨mg, 0, none⟩) 25 mc) ∧ W.cell? ⟨q8, 1, none⟩ = some (.slice (some ⟨gg, 0, none⟩) 25 gc) ∧ W.cell? ⟨gg, 12, none⟩ = some (.int .i64 1)) w12 := ⟨hb.on hC22.1, hb.on hC22.2.1, hb.on hC22.2.2⟩
 replace HA := Lib.hid (RS.on HA.out hb)
 replace HD := Lib.hid (RS.on HD.out hb)
 replace HM := Lib.hid (RS.on HM.out hb)
 replace HP := Lib.hid (RS.on HP.out hb)
 replace HB := Lib.hid (HB.out.trans (hb.mono HB.out.size))
 refine hK _ _ hC23 ?_
 clear hb HNW hC22
 simp only [Act.put, List.setIfInBounds_toArray, List.set_cons_succ, List.set_cons_zero]
 refine Lim.stepR 24 (fun _ => trivial) rfl (by kernel_rfl) (fun _ _ _ _ h => h) hC23 rfl ?_; apply Exists.intro; refine ⟨?_, ?_⟩
 ·rintro w ⟨r1, r2, r3⟩; go_simp; try with_reducible rfl
 simp only [Act.put, List.setIfInBounds_toArray, List.set_cons_succ, List.set_cons_zero]
 refine Lim.stepR 25 (fun _ => trivial) rfl (by kernel_rfl) (fun _ _ _ _ h => h) hC23 rfl ?_; apply Exists.intro; refine ⟨?_, ?_⟩
 ·rintro w ⟨r1, r2, r3⟩; go_simp; try with_reducible rfl
 simp only [Act.put, List.setIfInBounds_toArray, List.set_cons_succ, List.set_cons_zero]
 refine Lim.stepR 26 (fun _ => trivial) rfl (by kernel_rfl) (fun _ _ _ _ h => h) hC23 rfl ?_; apply Exists.intro; refine ⟨?_, ?_⟩
 ·rintro w ⟨r1, r2, r3⟩; go_simp; try with_reducible rfl
 simp only [Act.put, List.setIfInBounds_toArray, List.set_cons_succ, List.set_cons_zero]
 refine Lim.stepR 27 (fun _ => trivial) rfl (by kernel_rfl) (fun _ _ _ _ h => h) hC23 rfl ?_; apply Exists.intro; refine ⟨?_, ?_⟩
 ·rintro w ⟨r1, r2, r3⟩; go_simp; try with_reducible rfl
 simp only [Act.put, List.setIfInBounds_toArray, List.set_cons_succ, List.set_cons_zero]
 refine Lim.stepR 28 (fun _ => trivial) rfl (by kernel_rfl) (fun _ _ _ _ h => h) hC23 rfl ?_; apply Exists.intro; refine ⟨?_, ?_⟩
 ·rintro w ⟨r1, r2, r3⟩; go_simp; try with_reducible rfl
 simp only [Act.put, List.setIfInBounds_toArray, List.set_cons_succ, List.set_cons_zero]
 refine Lim.stepE 29 (fun _ => trivial) rfl (by kernel_rfl) rfl (fun K hK => ?_)   -- E makeSlice
 obtain ⟨i0, hi, hz0, hz1, hz2⟩ := info_parts Try.infoInt
 have hmk : (Instr.makeSlice 22 (.int .i64 25) (.int .i64 25)).run Try.prog w12 = .ok (.slice (some ⟨w12.heap.size, 0, none⟩) 25 25) (w12.alloc (.cells (Array.replicate 25 (.int .i64 0)) 3)) := made_ints ⟨hi, hz0, hz1, hz2⟩ (n := 25) (by omega)
 clear hi hz0 hz1 hz2
 go_simp
 have hbn : Below w12.heap.size w12 ((w12.alloc (.cells (Array.replicate 25 (.int .i64 0)) 3))) := ((Below.refl _ w12).alloc (Nat.le_refl _) _)
 have hC29 : (fun W => W.cell? ⟨q5, 1, none⟩ = some (.slice (some ⟨mg, 0, none⟩) 25 mc) ∧ W.cell? ⟨q8, 1, none⟩ = some (.slice (some ⟨gg, 0, none⟩) 25 gc) ∧ W.cell? ⟨gg, 12, none⟩ = some (.int .i64 1)) ((w12.alloc (.cells (Array.replicate 25 (.int .i64 0)) 3))) := ⟨hbn.on hC23.1, hbn.on hC23.2.1, hbn.on hC23.2.2⟩
 have HNW : Hid (RS ((w12.alloc (.cells (Array.replicate 25 (.int .i64 0)) 3))).heap.size ((w12.alloc (.cells (Array.replicate 25 (.int .i64 0)) 3))) (.slice (some ⟨w12.heap.size, 0, none⟩) 25 25) 25 (ints (List.replicate 25 0))) := Lib.hid (rs_new (w := w12) (n := 25) (t := 3) (ints (List.replicate 25 0)) rfl)
 replace HA := Lib.hid (RS.on HA.out hbn)
 replace HD := Lib.hid (RS.on HD.out hbn)
 replace HM := Lib.hid (RS.on HM.out hbn)
 replace HP := Lib.hid (RS.on HP.out hbn)
 replace HB := Lib.hid (HB.out.trans (hbn.mono HB.out.size))
 refine hK _ _ hC29 ?_
 clear hbn
 clear hmk
 simp only [Act.put, List.setIfInBounds_toArray, List.set_cons_succ, List.set_cons_zero]
 refine Lim.stepE 30 (fun _ => trivial) rfl (by kernel_rfl) rfl (fun K hK => ?_)   -- E call
 go_simp
 refine ⟨rfl, (callsIn_wide.2 (c_eq (l := List.replicate 25 0) (by decide) rfl HM.out HNW.out)).mono ?_⟩
 rintro e w13 ⟨rfl, hb⟩
 have hC30 : (fun W => W.cell? ⟨q5, 1, none⟩ = some (.slice (some ⟨mg, 0, none⟩) 25 mc) ∧ W.cell? ⟨q8, 1, none⟩ = some (.slice (some ⟨gg, 0, none⟩) 25 gc) ∧ W.cell? ⟨gg, 12, none⟩ = some (.int .i64 1)) w13 := ⟨hb.on hC29.1, hb.on hC29.2.1, hb.on hC29.2.2⟩
 replace HA := Lib.hid (RS.on HA.out hb)
 replace HD := Lib.hid (RS.on HD.out hb)
 replace HM := Lib.hid (RS.on HM.out hb)
 replace HP := Lib.hid (RS.on HP.out hb)
 replace HB := Lib.hid (HB.out.trans (hb.mono HB.out.size))
 refine hK _ _ hC30 ?_
 clear hb HNW hC29
 simp only [Act.put, List.setIfInBounds_toArray, List.set_cons_succ, List.set_cons_zero]
 refine Lim.stepR 31 (fun _ => trivial) rfl (by kernel_rfl) (fun _ _ _ _ h => h) hC30 rfl ?_; apply Exists.intro; refine ⟨?_, ?_⟩
 ·rintro w ⟨r1, r2, r3⟩; go_simp; try with_reducible rfl
 simp only [Act.put, List.setIfInBounds_toArray, List.set_cons_succ, List.set_cons_zero]
 refine Lim.stepR 32 (fun _ => trivial) rfl (by kernel_rfl) (fun _ _ _ _ h => h) hC30 rfl ?_; apply Exists.intro; refine ⟨?_, ?_⟩
 ·rintro w ⟨r1, r2, r3⟩; go_simp; try with_reducible rfl
 simp only [Act.put, List.setIfInBounds_toArray, List.set_cons_succ, List.set_cons_zero]
 refine Lim.stepR 33 (fun _ => trivial) rfl (by kernel_rfl) (fun _ _ _ _ h => h) hC30 rfl ?_; apply Exists.intro; refine ⟨?_, ?_⟩
 ·rintro w ⟨r1, r2, r3⟩; go_simp; try with_reducible rfl
 simp only [Act.put, List.setIfInBounds_toArray, List.set_cons_succ, List.set_cons_zero]
 refine Lim.stepR 34 (fun _ => trivial) rfl (by kernel_rfl) (fun _ _ _ _ h => h) hC30 rfl ?_; apply Exists.intro; refine ⟨?_, ?_⟩
 ·rintro w ⟨r1, r2, r3⟩; go_simp; try with_reducible rfl
 simp only [Act.put, List.setIfInBounds_toArray, List.set_cons_succ, List.set_cons_zero]
 refine Lim.stepE 35 (fun _ => trivial) rfl (by kernel_rfl) rfl (fun K hK => ?_)   -- E buildSlice
 go_simp
 have hbn : Below w13.heap.size w13 ((w13.alloc (.cells #[.int .i64 6, .int .i64 7, .int .i64 8, .int .i64 11, .int .i64 13, .int .i64 16, .int .i64 17, .int .i64 18] 3))) := ((Below.refl _ w13).alloc (Nat.le_refl _) _)
 have hC35 : (fun W => W.cell? ⟨q5, 1, none⟩ = some (.slice (some ⟨mg, 0, none⟩) 25 mc) ∧ W.cell? ⟨q8, 1, none⟩ = some (.slice (some ⟨gg, 0, none⟩) 25 gc) ∧ W.cell? ⟨gg, 12, none⟩ = some (.int .i64 1)) ((w13.alloc (.cells #[.int .i64 6, .int .i64 7, .int .i64 8, .int .i64 11, .int .i64 13, .int .i64 16, .int .i64 17, .int .i64 18] 3))) := ⟨hbn.on hC30.1, hbn.on hC30.2.1, hbn.on hC30.2.2⟩
 have HNW : Hid (RS ((w13.alloc (.cells #[.int .i64 6, .int .i64 7, .int .i64 8, .int .i64 11, .int .i64 13, .int .i64 16, .int .i64 17, .int .i64 18] 3))).heap.size ((w13.alloc (.cells #[.int .i64 6, .int .i64 7, .int .i64 8, .int .i64 11, .int .i64 13, .int .i64 16, .int .i64 17, .int .i64 18] 3))) (.slice (some ⟨w13.heap.size, 0, none⟩) 8 8) 8 (ints [6, 7, 8, 11, 13, 16, 17, 18])) := Lib.hid (rs_new (w := w13) (n := 8) (t := 3) (ints [6, 7, 8, 11, 13, 16, 17, 18]) rfl)
 replace HA := Lib.hid (RS.on HA.out hbn)
 replace HD := Lib.hid (RS.on HD.out hbn)
 replace HM := Lib.hid (RS.on HM.out hbn)
 replace HP := Lib.hid (RS.on HP.out hbn)
 replace HB := Lib.hid (HB.out.trans (hbn.mono HB.out.size))
 refine hK _ _ hC35 ?_
 clear hbn
 simp only [Act.put, List.setIfInBounds_toArray, List.set_cons_succ, List.set_cons_zero]
 refine Lim.stepE 36 (fun _ => trivial) rfl (by kernel_rfl) rfl (fun K hK => ?_)   -- E call
 go_simp
 refine ⟨rfl, (callsIn_wide.2 (c_eq (l := [6, 7, 8, 11, 13, 16, 17, 18]) (by decide) rfl HP.out HNW.out)).mono ?_⟩
 rintro e w14 ⟨rfl, hb⟩
 have hC36 : (fun W => W.cell? ⟨q5, 1, none⟩ = some (.slice (some ⟨mg, 0, none⟩) 25 mc) ∧ W.cell? ⟨q8, 1, none⟩ = some (.slice (some ⟨gg, 0, none⟩) 25 gc) ∧ W.cell? ⟨gg, 12, none⟩ = some (.int .i64 1)) w14 := ⟨hb.on hC35.1, hb.on hC35.2.1, hb.on hC35.2.2⟩
 replace HA := Lib.hid (RS.on HA.out hb)
 replace HD := Lib.hid (RS.on HD.out hb)
 replace HM := Lib.hid (RS.on HM.out hb)
 replace HP := Lib.hid (RS.on HP.out hb)
 replace HB := Lib.hid (HB.out.trans (hb.mono HB.out.size))
 refine hK _ _ hC36 ?_
 clear hb HNW hC35
 simp only [Act.put, List.setIfInBounds_toArray, List.set_cons_succ, List.set_cons_zero]
 refine Lim.stepR 37 (fun _ => trivial) rfl (by kernel_rfl) (fun _ _ _ _ h => h) hC36 rfl ?_; apply Exists.intro; refine ⟨?_, ?_⟩
 ·rintro w ⟨r1, r2, r3⟩; go_simp; try with_reducible rfl
 simp only [Act.put, List.setIfInBounds_toArray, List.set_cons_succ, List.set_cons_zero]
 refine Lim.stepR 38 (fun _ => trivial) rfl (by kernel_rfl) (fun _ _ _ _ h => h) hC36 rfl ?_; apply Exists.intro; refine ⟨?_, ?_⟩
 ·rintro w ⟨r1, r2, r3⟩; go_simp; try with_reducible rfl
 simp only [Act.put, List.setIfInBounds_toArray, List.set_cons_succ, List.set_cons_zero]
 refine Lim.stepR 39 (fun _ => trivial) rfl (by kernel_rfl) (fun _ _ _ _ h => h) hC36 rfl ?_; apply Exists.intro; refine ⟨?_, ?_⟩
 ·rintro w ⟨r1, r2, r3⟩; go_simp; try with_reducible rfl
 simp only [Act.put, List.setIfInBounds_toArray, List.set_cons_succ, List.set_cons_zero]
 refine Lim.stepR 40 (fun _ => trivial) rfl (by kernel_rfl) (fun _ _ _ _ h => h) hC36 rfl ?_; apply Exists.intro; refine ⟨?_, ?_⟩
 ·rintro w ⟨r1, r2, r3⟩; go_simp; try with_reducible rfl
 simp only [Act.put, List.setIfInBounds_toArray, List.set_cons_succ, List.set_cons_zero]
 refine Lim.stepR 41 (fun _ => trivial) rfl (by kernel_rfl) (fun _ _ _ _ h => h) hC36 rfl ?_; apply Exists.intro; refine ⟨?_, ?_⟩
 ·rintro w ⟨r1, r2, r3⟩; go_simp; try with_reducible rfl
 simp only [Act.put, List.setIfInBounds_toArray, List.set_cons_succ, List.set_cons_zero]
 refine Lim.stepR 42 (fun _ => trivial) rfl (by kernel_rfl) (fun _ _ _ _ h => h) hC36 rfl ?_; apply Exists.intro; refine ⟨?_, ?_⟩
 ·rintro w ⟨r1, r2, r3⟩; go_simp; try with_reducible rfl
 simp only [Act.put, List.setIfInBounds_toArray, List.set_cons_succ, List.set_cons_zero]
 refine Lim.stepR 43 (fun _ => trivial) rfl (by kernel_rfl) (fun _ _ _ _ h => h) hC36 rfl ?_; apply Exists.intro; refine ⟨?_, ?_⟩
 ·rintro w ⟨r1, r2, r3⟩; go_simp; try with_reducible rfl
 simp only [Act.put, List.setIfInBounds_toArray, List.set_cons_succ, List.set_cons_zero]
 refine Lim.stepR 44 (fun _ => trivial) rfl (by kernel_rfl) (fun _ _ _ _ h => h) hC36 rfl ?_; apply Exists.intro; refine ⟨?_, ?_⟩
 ·rintro w ⟨r1, r2, r3⟩; go_simp; try with_reducible rfl
 simp only [Act.put, List.setIfInBounds_toArray, List.set_cons_succ, List.set_cons_zero]
 refine Lim.stepR 45 (fun _ => trivial) rfl (by kernel_rfl) (fun _ _ _ _ h => h) hC36 rfl ?_; apply Exists.intro; refine ⟨?_, ?_⟩
 ·rintro w ⟨r1, r2, r3⟩; go_simp; try with_reducible rfl
 simp only [Act.put, List.setIfInBounds_toArray, List.set_cons_succ, List.set_cons_zero]
 refine Lim.stepR 46 (fun _ => trivial) rfl (by kernel_rfl) (fun _ _ _ _ h => h) hC36 rfl ?_; apply Exists.intro; refine ⟨?_, ?_⟩
 ·rintro w ⟨r1, r2, r3⟩; go_simp; try with_reducible rfl
 simp only [Act.put, List.setIfInBounds_toArray, List.set_cons_succ, List.set_cons_zero]
 refine Lim.stepR 47 (fun _ => trivial) rfl (by kernel_rfl) (fun _ _ _ _ h => h) hC36 rfl ?_; apply Exists.intro; refine ⟨?_, ?_⟩
 ·rintro w ⟨r1, r2, r3⟩; go_simp; try with_reducible rfl
 simp only [Act.put, List.setIfInBounds_toArray, List.set_cons_succ, List.set_cons_zero]
 refine Lim.stepR 48 (fun _ => trivial) rfl (by kernel_rfl) (fun _ _ _ _ h => h) hC36 rfl ?_; apply Exists.intro; refine ⟨?_, ?_⟩
 ·rintro w ⟨r1, r2, r3⟩; go_simp; try with_reducible rfl
 simp only [Act.put, List.setIfInBounds_toArray, List.set_cons_succ, List.set_cons_zero]
 refine Lim.stepR 49 (fun _ => trivial) rfl (by kernel_rfl) (fun _ _ _ _ h => h) hC36 rfl ?_; apply Exists.intro; refine ⟨?_, ?_⟩
 ·rintro w ⟨r1, r2, r3⟩; go_simp; try with_reducible rfl
 simp only [Act.put, List.setIfInBounds_toArray, List.set_cons_succ, List.set_cons_zero]
 refine Lim.stepR 50 (fun _ => trivial) rfl (by kernel_rfl) (fun _ _ _ _ h => h) hC36 rfl ?_; apply Exists.intro; refine ⟨?_, ?_⟩
 ·rintro w ⟨r1, r2, r3⟩; go_simp; try with_reducible rfl
 simp only [Act.put, List.setIfInBounds_toArray, List.set_cons_succ, List.set_cons_zero]
 refine Lim.stepR 51 (fun _ => trivial) rfl (by kernel_rfl) (fun _ _ _ _ h => h) hC36 rfl ?_; apply Exists.intro; refine ⟨?_, ?_⟩
 ·rintro w ⟨r1, r2, r3⟩; go_simp; try with_reducible rfl
 simp only [Act.put, List.setIfInBounds_toArray, List.set_cons_succ, List.set_cons_zero]
 refine Lim.stepD (by kernel_rfl) ?_
 clear HC0
 clear hC36
 obtain ⟨w20, hw20⟩ : ∃ x, x = w14 := ⟨_, rfl⟩
 simp only [← hw20] at HB ⊢
 clear hw20
 clear hC c5 c8 cg
 clear HM HP
 clear HA HD
 go_wp2_with fail
 refine (Ring_any 2 _).mono ?_
 rintro e w21 ⟨g, rfl, hr, hb⟩
 have hs21 : Below w20.heap.size w20 w21 := hb
 have HB : Hid (Below w.heap.size w w21) := Lib.hid (HB.out.trans (hs21.mono HB.out.size))
 clear hb hs21
 have HR := Lib.hid hr
 clear hr
 go_wp2_with fail
 refine (c_aro2 HR.out).mono ?_
 rintro e w22 ⟨⟨av2, rfl, hv⟩, hb⟩
 have hs22 : Below w21.heap.size w21 w22 := hb
 have HB : Hid (Below w.heap.size w w22) := Lib.hid (HB.out.trans (hs22.mono HB.out.size))
 clear hb hs22
 have HA := Lib.hid hv
 have o5 := RS.one hv
 clear hv HR
 go_wp2_with fail
 refine (Ring_any 2 _).mono ?_
 rintro e w23 ⟨g, rfl, hr, hb⟩
 have hs23 : Below w22.heap.size w22 w23 := hb
 have HB : Hid (Below w.heap.size w w23) := Lib.hid (HB.out.trans (hs23.mono HB.out.size))
 have HA := Lib.hid (RS.on HA.out hs23)
 clear hb hs23
 have HR := Lib.hid hr
 clear hr
 go_wp2_with fail
 refine (c_dep2 HR.out).mono ?_
 rintro e w24 ⟨⟨dv2, rfl, hv⟩, hb⟩
 have hs24 : Below w23.heap.size w23 w24 := hb
 have HB : Hid (Below w.heap.size w w24) := Lib.hid (HB.out.trans (hs24.mono HB.out.size))
 have HA := Lib.hid (RS.on HA.out hs24)
 clear hb hs24
 have HD := Lib.hid hv
 have o6 := RS.one hv
 clear hv HR
 go_wp2_with fail
 refine (Ring_any 2 _).mono ?_
 rintro e w25 ⟨g, rfl, hr, hb⟩
 have hs25 : Below w24.heap.size w24 w25 := hb
 have HB : Hid (Below w.heap.size w w25) := Lib.hid (HB.out.trans (hs25.mono HB.out.size))
 have HA := Lib.hid (RS.on HA.out hs25)
 have HD := Lib.hid (RS.on HD.out hs25)
 clear hb hs25
 have HR := Lib.hid hr
 clear hr
 go_wp2_with fail
 refine (c_lea2 (RS.on HR.out ((Below.refl _ w25).alloc (Nat.le_refl _) (.cells #[.int .i64 12, .int .i64 7, .int .i64 2] 3))) (rs_new (w := w25) (n := 3) (t := 3) (ints [12, 7, 2]) rfl)).mono ?_
 rintro e w26 ⟨rfl, hb⟩
 have hs26 : Below w25.heap.size w25 w26 := (((Below.refl _ w25).alloc (Nat.le_refl _) (.cells #[.int .i64 12, .int .i64 7, .int .i64 2] 3)).trans (hb.mono ((Below.refl _ w25).alloc (Nat.le_refl _) (.cells #[.int .i64 12, .int .i64 7, .int .i64 2] 3)).size))
 have HB : Hid (Below w.heap.size w w26) := Lib.hid (HB.out.trans (hs26.mono HB.out.size))
 have HA := Lib.hid (RS.on HA.out hs26)
 have HD := Lib.hid (RS.on HD.out hs26)
 clear hb hs26
 clear HR
 go_wp2_with fail
 refine (Square_any _).mono ?_
 rintro e w27 ⟨qa, qb, qc, rfl, ha, hb1, hc, hb⟩
 have hs27 : Below w26.heap.size w26 w27 := hb
 have HB : Hid (Below w.heap.size w w27) := Lib.hid (HB.out.trans (hs27.mono HB.out.size))
 have HA := Lib.hid (RS.on HA.out hs27)
 have HD := Lib.hid (RS.on HD.out hs27)
 clear hb hs27
 have HSA := Lib.hid ha
 have HSB := Lib.hid hb1
 have HSC := Lib.hid hc
 clear ha hb1 hc
 go_wp2_with fail
 refine (c_div HSA.out HSB.out HSC.out).mono ?_
 rintro e w28 ⟨⟨lv, rfl, hv⟩, hb⟩
 have hs28 : Below w27.heap.size w27 w28 := hb
 have HB : Hid (Below w.heap.size w w28) := Lib.hid (HB.out.trans (hs28.mono HB.out.size))
 have HA := Lib.hid (RS.on HA.out hs28)
 have HD := Lib.hid (RS.on HD.out hs28)
 clear hb hs28
 have HL := Lib.hid hv
 have o7 := RS.one hv
 clear hv HSA HSB HSC
 go_wp2_with fail
 refine (Square_any _).mono ?_
 rintro e w29 ⟨qa, qb, qc, rfl, ha, hb1, hc, hb⟩
 have hs29 : Below w28.heap.size w28 w29 := hb
 have HB : Hid (Below w.heap.size w w29) := Lib.hid (HB.out.trans (hs29.mono HB.out.size))
 have HA := Lib.hid (RS.on HA.out hs29)
 have HD := Lib.hid (RS.on HD.out hs29)
 have HL := Lib.hid (RS.on HL.out hs29)
 clear hb hs29
 have HSA := Lib.hid ha
 have HSB := Lib.hid hb1
 have HSC := Lib.hid hc
 clear ha hb1 hc
 go_wp2_with fail
 refine (c_pro (RS.on HSA.out ((((Below.refl _ w29).alloc (Nat.le_refl _) (.cells #[.int .i64 0, .int .i64 1, .int .i64 3] 3)).alloc (by simp) (.cells #[.int .i64 0, .int .i64 2, .int .i64 3] 3)).alloc (by simp; omega) (.cells #[.slice (some ⟨w29.heap.size, 0, none⟩) 3 3, .int .i64 2, .slice (some ⟨w29.heap.size + 1, 0, none⟩) 3 3, .int .i64 1] 83))) (RS.on HSB.out ((((Below.refl _ w29).alloc (Nat.le_refl _) (.cells #[.int .i64 0, .int .i64 1, .int .i64 3] 3)).alloc (by simp) (.cells #[.int .i64 0, .int .i64 2, .int .i64 3] 3)).alloc (by simp; omega) (.cells #[.slice (some ⟨w29.heap.size, 0, none⟩) 3 3, .int .i64 2, .slice (some ⟨w29.heap.size + 1, 0, none⟩) 3 3, .int .i64 1] 83))) (RS.on HSC.out ((((Below.refl _ w29).alloc (Nat.le_refl _) (.cells #[.int .i64 0, .int .i64 1, .int .i64 3] 3)).alloc (by simp) (.cells #[.int .i64 0, .int .i64 2, .int .i64 3] 3)).alloc (by simp; omega) (.cells #[.slice (some ⟨w29.heap.size, 0, none⟩) 3 3, .int .i64 2, .slice (some ⟨w29.heap.size + 1, 0, none⟩) 3 3, .int .i64 1] 83))) (wk_new w29 _ _)).mono ?_
 rintro e w30 ⟨rfl, hb⟩
 have hs30 : Below w29.heap.size w29 w30 := ((((((Below.refl _ w29).alloc (Nat.le_refl _) (.cells #[.int .i64 0, .int .i64 1, .int .i64 3] 3)).alloc (by simp) (.cells #[.int .i64 0, .int .i64 2, .int .i64 3] 3)).alloc (by simp; omega) (.cells #[.slice (some ⟨w29.heap.size, 0, none⟩) 3 3, .int .i64 2, .slice (some ⟨w29.heap.size + 1, 0, none⟩) 3 3, .int .i64 1] 83))).trans (hb.mono (((((Below.refl _ w29).alloc (Nat.le_refl _) (.cells #[.int .i64 0, .int .i64 1, .int .i64 3] 3)).alloc (by simp) (.cells #[.int .i64 0, .int .i64 2, .int .i64 3] 3)).alloc (by simp; omega) (.cells #[.slice (some ⟨w29.heap.size, 0, none⟩) 3 3, .int .i64 2, .slice (some ⟨w29.heap.size + 1, 0, none⟩) 3 3, .int .i64 1] 83))).size))
 have HB : Hid (Below w.heap.size w w30) := Lib.hid (HB.out.trans (hs30.mono HB.out.size))
 have HA := Lib.hid (RS.on HA.out hs30)
 have HD := Lib.hid (RS.on HD.out hs30)
 have HL := Lib.hid (RS.on HL.out hs30)
 clear hb hs30
 clear HSA HSB HSC
 go_wp2_with fail
 refine (c_eq (l := [-1, 0, 0, 0]) (by decide) rfl (RS.on HA.out ((Below.refl _ w30).alloc (Nat.le_refl _) (.cells #[.int .i64 (-1), .int .i64 0, .int .i64 0, .int .i64 0] 3))) (rs_new (w := w30) (n := 4) (t := 3) (ints [-1, 0, 0, 0]) rfl)).mono ?_
 rintro e w31 ⟨rfl, hb⟩
 clear HA
 have hs31 : Below w30.heap.size w30 w31 := (((Below.refl _ w30).alloc (Nat.le_refl _) (.cells #[.int .i64 (-1), .int .i64 0, .int .i64 0, .int .i64 0] 3)).trans (hb.mono ((Below.refl _ w30).alloc (Nat.le_refl _) (.cells #[.int .i64 (-1), .int .i64 0, .int .i64 0, .int .i64 0] 3)).size))
 have HB : Hid (Below w.heap.size w w31) := Lib.hid (HB.out.trans (hs31.mono HB.out.size))
 have HD := Lib.hid (RS.on HD.out hs31)
 have HL := Lib.hid (RS.on HL.out hs31)
 clear hb hs31
 go_wp2_with fail
 refine (c_eq (l := [0, 1, 1, 1]) (by decide) rfl (RS.on HD.out ((Below.refl _ w31).alloc (Nat.le_refl _) (.cells #[.int .i64 0, .int .i64 1, .int .i64 1, .int .i64 1] 3))) (rs_new (w := w31) (n := 4) (t := 3) (ints [0, 1, 1, 1]) rfl)).mono ?_
 rintro e w32 ⟨rfl, hb⟩
 clear HD
 have hs32 : Below w31.heap.size w31 w32 := (((Below.refl _ w31).alloc (Nat.le_refl _) (.cells #[.int .i64 0, .int .i64 1, .int .i64 1, .int .i64 1] 3)).trans (hb.mono ((Below.refl _ w31).alloc (Nat.le_refl _) (.cells #[.int .i64 0, .int .i64 1, .int .i64 1, .int .i64 1] 3)).size))
 have HB : Hid (Below w.heap.size w w32) := Lib.hid (HB.out.trans (hs32.mono HB.out.size))
 have HL := Lib.hid (RS.on HL.out hs32)
 clear hb hs32
 go_wp2_with fail
 refine (c_eq (l := [0, 0, 1, 1]) (by decide) rfl (RS.on HL.out ((Below.refl _ w32).alloc (Nat.le_refl _) (.cells #[.int .i64 0, .int .i64 0, .int .i64 1, .int .i64 1] 3))) (rs_new (w := w32) (n := 4) (t := 3) (ints [0, 0, 1, 1]) rfl)).mono ?_
 rintro e w33 ⟨rfl, hb⟩
 clear HL
 have hs33 : Below w32.heap.size w32 w33 := (((Below.refl _ w32).alloc (Nat.le_refl _) (.cells #[.int .i64 0, .int .i64 0, .int .i64 1, .int .i64 1] 3)).trans (hb.mono ((Below.refl _ w32).alloc (Nat.le_refl _) (.cells #[.int .i64 0, .int .i64 0, .int .i64 1, .int .i64 1] 3)).size))
 have HB : Hid (Below w.heap.size w w33) := Lib.hid (HB.out.trans (hs33.mono HB.out.size))
 clear hb hs33
 go_wp2
 go_ret
 exact ⟨rfl, HB.out⟩
end Go.Proofs.Ytkjcnkkmhkcddaa
