/-
  Parts of the proof, in the order in which they build: RwRow.
-/
import Derived.Deep.CutRange
import Derived.BigQuiet
import Derived.Maps.AppendAt
import Derived.Test.YtohjinbgbfggcaaR10
import Derived.Test.YtohjinbgbfggcaaR9
import Derived.Test.YtohjinbgbfggcaaR8
import Derived.Test.YtohjinbgbfggcaaA45
import Derived.Test.YtohjinbgbfggcaaA48
import Derived.Test.YtohjinbgbfggcaaA44
import Derived.Test.YtohjinbgbfggcaaA20
set_option linter.unusedVariables false
set_option linter.unusedSimpArgs false
namespace Go.Proofs.Ytohjinbgbfggcaa
open Go.RowKit Go.Shelf
open Lim

set_option maxRecDepth 20000 in
set_option maxHeartbeats 8000000 in
theorem prow_any {B : Nat} {nv tv0 : Value} {ns ts : List Int} {w : World} (hB : B ≤ w.heap.size) (hn : RS B w nv ns.length (u8s ns)) (hnu : ∀ x ∈ ns, 0 ≤ x ∧ x ≤ 255) (ht : RS B w tv0 ts.length (u8s ts)) (htu : ∀ x ∈ ts, 0 ≤ x ∧ x ≤ 255) :
    Calls Try.prog 3 #[nv, tv0] w fun e w' => e = .returned (.bool true) ∧ Below w.heap.size w w' := by
  have HA := Lib.hid (And.intro hB (And.intro hn (And.intro hnu (And.intro ht htu))))
  obtain ⟨na, nc, rfl, -⟩ := hn
  obtain ⟨ua, uc, rfl, -⟩ := ht
  clear hB hnu htu
  go_enter Try.func3, Try.ntmps3
  go_wp2_with fail
  refine (of_dk HA.out.1 HA.out.2.1 HA.out.2.2.1).mono ?_
  rintro e w1 ⟨rfl, hd0, hb1, hs1⟩
  have HD0 := Lib.hid (And.intro hd0 (And.intro hb1 hs1))
  clear hd0 hb1 hs1
  go_wp2_with fail
  refine (of_dk (B := B) (by have h1 := HA.out.1; have h2 := HD0.out.2.1.size; omega) (HA.out.2.2.2.1.below (HD0.out.2.1.mono HA.out.1)) HA.out.2.2.2.2).mono ?_
  rintro e w2 ⟨rfl, hd1, hb2, hs2⟩
  have HD1 := Lib.hid (And.intro hd1 (And.intro hb2 hs2))
  clear hd1 hb2 hs2
  go_wp2_with fail
  refine (pmade_any (M := 10) (d := w.heap.size) (c0 := 0) ((HD0.out.1.below HD1.out.2.1).deck (n := 0) (by omega)) (by omega) (by omega)).mono ?_
  rintro e w3 ⟨av, gv, tv, p, T, c', rfl, hM, -, -, hgr, o1, o2, o3⟩
  have HM := Lib.hid hM
  have HOK : Hid p.Ok := Lib.hid (hM.ok (by omega))
  have HLN := Lib.hid hM.lens
  have HK0 := Lib.hid (Mem.start2 HA.out.1 HA.out.2.2.2.1 HD0.out.2.1 HD0.out.2.2 HD1.out.1 HD1.out.2.1 HD1.out.2.2 (Int.le_refl _) hgr o1 o2 o3)
  obtain ⟨d1, hd1e⟩ : ∃ d1, d1 = w1.heap.size := ⟨_, rfl⟩
  obtain ⟨S, hSe⟩ : ∃ S, S = w2.heap.size := ⟨_, rfl⟩
  rw [← hd1e, ← hSe] at HK0
  obtain ⟨ha, hc, rfl⟩ : ∃ g cap, av = .slice (some ⟨g, 0, none⟩) p.ats.length cap := form_pos (r := rwI av p.ats.length p.ats) o1 (show 0 < p.ats.length by have := HLN.out; omega)
  obtain ⟨ga, gc, rfl⟩ : ∃ g cap, gv = .slice (some ⟨g, 0, none⟩) p.gr.length cap := form_pos (r := rwS gv p.gr.length p.gr) o2 (show 0 < p.gr.length by have := HLN.out; omega)
  obtain ⟨ta, tc, rfl⟩ : ∃ g cap, tv = .slice (some ⟨g, 0, none⟩) T.length cap := form_pos (r := rwI tv T.length T) o3 (show 0 < T.length by have := HLN.out; omega)
  simp only [← hd1e]
  clear hM hgr o1 o2 o3 hd1e hSe HD0 HD1 HA
  go_wp2_with fail
  have HK1 := Lib.hid (HK0.out.lay (.cells #[.slice (some ⟨ha, 0, none⟩) p.ats.length hc, .slice (some ⟨ga, 0, none⟩) p.gr.length gc, .int .i64 p.tall, .int .i64 p.lo, .int .i64 p.hi] 30))
  obtain ⟨q, hqe⟩ : ∃ q, q = w3.heap.size := ⟨_, rfl⟩
  simp only [← hqe] at HK1 ⊢
  generalize w3.alloc (.cells #[.slice (some ⟨ha, 0, none⟩) p.ats.length hc, .slice (some ⟨ga, 0, none⟩) p.gr.length gc, .int .i64 p.tall, .int .i64 p.lo, .int .i64 p.hi] 30) = w4 at HK1 ⊢
  clear HK0 hqe
  obtain ⟨i0, hi, hz0, hz1, hz2⟩ := info_parts Try.infoSpan
  have HSP := Lib.hid (And.intro hi (And.intro hz0 (And.intro hz1 hz2)))
  clear hi hz0 hz1 hz2
  obtain ⟨i1, hi, hz0, hz1, hz2⟩ := info_parts Try.infoInt
  have HIN := Lib.hid (And.intro hi (And.intro hz0 (And.intro hz1 hz2)))
  clear hi hz0 hz1 hz2
  have hn10 : p.ats.length ≤ 10 := by have := HLN.out; omega
  obtain ⟨wd, hwd⟩ : ∃ wd : Int, wd = (p.ats.length : Int) + 2 := ⟨_, rfl⟩
  have ew : IntKind.i64.wrap ((p.ats.length : Int) + 2) = wd := by rw [hwd]; exact IntWalk.i64_in _ (by omega)
  have HWD := Lib.hid hwd
  clear hwd
  have hC : (fun W => W.cell? ⟨q, 0, none⟩ = some (.slice (some ⟨ha, 0, none⟩) p.ats.length hc) ∧ W.cell? ⟨q, 1, none⟩ = some (.slice (some ⟨ga, 0, none⟩) p.gr.length gc) ∧ W.cell? ⟨q, 2, none⟩ = some (.int .i64 p.tall) ∧ W.cell? ⟨q, 3, none⟩ = some (.int .i64 p.lo) ∧ W.cell? ⟨q, 4, none⟩ = some (.int .i64 p.hi)) w4.drew := HK1.out.drew.box5 (t := 30) (List.mem_singleton.2 rfl)
  refine Lim.regC' (fun W => W.cell? ⟨q, 0, none⟩ = some (.slice (some ⟨ha, 0, none⟩) p.ats.length hc) ∧ W.cell? ⟨q, 1, none⟩ = some (.slice (some ⟨ga, 0, none⟩) p.gr.length gc) ∧ W.cell? ⟨q, 2, none⟩ = some (.int .i64 p.tall) ∧ W.cell? ⟨q, 3, none⟩ = some (.int .i64 p.lo) ∧ W.cell? ⟨q, 4, none⟩ = some (.int .i64 p.hi)) [] #[false, false, false, false, false, false, false, false, false, false, false, false, false, false, false, false, false, false, false, false] (by kernel_rfl) rfl ?_
  refine Lim.stepR 0 (fun _ => trivial) rfl (by kernel_rfl) (fun _ _ _ _ h => h) hC rfl ?_; apply Exists.intro; refine ⟨?_, ?_⟩
  · rintro w ⟨r0, r1, r2, r3, r4⟩; go_simp; try with_reducible rfl
  simp only [Act.put, List.setIfInBounds_toArray, List.set_cons_succ, List.set_cons_zero]
  refine Lim.stepR 1 (fun _ => trivial) rfl (by kernel_rfl) (fun _ _ _ _ h => h) hC rfl ?_; apply Exists.intro; refine ⟨?_, ?_⟩
  · rintro w ⟨r0, r1, r2, r3, r4⟩; go_simp; try with_reducible rfl
  simp only [Act.put, List.setIfInBounds_toArray, List.set_cons_succ, List.set_cons_zero]
  refine Lim.stepR 2 (fun _ => trivial) rfl (by kernel_rfl) (fun _ _ _ _ h => h) hC rfl ?_; apply Exists.intro; refine ⟨?_, ?_⟩
  · rintro w ⟨r0, r1, r2, r3, r4⟩; go_simp; try with_reducible rfl
  simp only [Act.put, List.setIfInBounds_toArray, List.set_cons_succ, List.set_cons_zero]
  refine Lim.stepR 3 (fun _ => trivial) rfl (by kernel_rfl) (fun _ _ _ _ h => h) hC rfl ?_; apply Exists.intro; refine ⟨?_, ?_⟩
  · rintro w ⟨r0, r1, r2, r3, r4⟩; go_simp; try with_reducible rfl
  simp only [Act.put, List.setIfInBounds_toArray, List.set_cons_succ, List.set_cons_zero]
  refine Lim.stepR 4 (fun _ => trivial) rfl (by kernel_rfl) (fun _ _ _ _ h => h) hC rfl ?_; apply Exists.intro; refine ⟨?_, ?_⟩
  · rintro w ⟨r0, r1, r2, r3, r4⟩; go_simp; try with_reducible rfl
  simp only [Act.put, List.setIfInBounds_toArray, List.set_cons_succ, List.set_cons_zero]
  refine Lim.stepR 6 (fun _ => trivial) rfl (by kernel_rfl) (fun _ _ _ _ h => h) hC rfl ?_; apply Exists.intro; refine ⟨?_, ?_⟩
  · rintro w ⟨r0, r1, r2, r3, r4⟩; go_simp; try with_reducible rfl
  simp only [Act.put, List.setIfInBounds_toArray, List.set_cons_succ, List.set_cons_zero]
  refine Lim.stepR 7 (fun _ => trivial) rfl (by kernel_rfl) (fun _ _ _ _ h => h) hC rfl ?_; apply Exists.intro; refine ⟨?_, ?_⟩
  · rintro w ⟨r0, r1, r2, r3, r4⟩; go_simp; try with_reducible rfl
  simp only [Act.put, List.setIfInBounds_toArray, List.set_cons_succ, List.set_cons_zero]
  refine Lim.stepR 9 (fun _ => trivial) rfl (by kernel_rfl) (fun _ _ _ _ h => h) hC rfl ?_; apply Exists.intro; refine ⟨?_, ?_⟩
  · rintro w ⟨r0, r1, r2, r3, r4⟩; go_simp; try with_reducible rfl
  simp only [Act.put, List.setIfInBounds_toArray, List.set_cons_succ, List.set_cons_zero]
  refine Lim.stepR 12 (fun _ => trivial) rfl (by kernel_rfl) (fun _ _ _ _ h => h) hC rfl ?_; apply Exists.intro; refine ⟨?_, ?_⟩
  · rintro w ⟨r0, r1, r2, r3, r4⟩; go_simp; try with_reducible rfl
  simp only [Act.put, List.setIfInBounds_toArray, List.set_cons_succ, List.set_cons_zero]
  refine Lim.stepR 13 (fun _ => trivial) rfl (by kernel_rfl) (fun _ _ _ _ h => h) hC rfl ?_; apply Exists.intro; refine ⟨?_, ?_⟩
  · rintro w ⟨r0, r1, r2, r3, r4⟩; go_simp; try with_reducible rfl
  simp only [Act.put, List.setIfInBounds_toArray, List.set_cons_succ, List.set_cons_zero]
  refine Lim.stepR 14 (fun _ => trivial) rfl (by kernel_rfl) (fun _ _ _ _ h => h) hC rfl ?_; apply Exists.intro; refine ⟨?_, ?_⟩
  · rintro w ⟨r0, r1, r2, r3, r4⟩; go_simp; try with_reducible rfl
  simp only [Act.put, List.setIfInBounds_toArray, List.set_cons_succ, List.set_cons_zero]
  refine Lim.stepR 15 (fun _ => trivial) rfl (by kernel_rfl) (fun _ _ _ _ h => h) hC rfl ?_; apply Exists.intro; refine ⟨?_, ?_⟩
  · rintro w ⟨r0, r1, r2, r3, r4⟩; go_simp; try with_reducible rfl
  simp only [Act.put, List.setIfInBounds_toArray, List.set_cons_succ, List.set_cons_zero]
  refine Lim.parC [5, 8, 10, 11, 16, 17, 18, 19] (fun done a W => ∃ x41 x44 x46 x47 x52 x53 x9 pb, a = { tmps := #[.slice na ns.length nc, .slice ua ts.length uc, undef, undef, .bool false, .pointer (some ⟨w.heap.size, 0, none⟩), .pointer (some ⟨d1, 0, none⟩), .pointer (some ⟨q, 0, none⟩), .slice (some ⟨ta, 0, none⟩) T.length tc, x9, undef, undef, undef, undef, undef, undef, undef, undef, undef, undef, undef, undef, undef, undef, undef, undef, undef, .slice na ns.length nc, .pointer (some ⟨w.heap.size, 0, none⟩), .slice ua ts.length uc, .pointer (some ⟨d1, 0, none⟩), .tuple #[.agg #[.slice (some ⟨ha, 0, none⟩) p.ats.length hc, .slice (some ⟨ga, 0, none⟩) p.gr.length gc, .int .i64 p.tall, .int .i64 p.lo, .int .i64 p.hi], .slice (some ⟨ta, 0, none⟩) T.length tc], .pointer (some ⟨w.heap.size, 0, none⟩), .tuple #[.agg #[.slice (some ⟨ha, 0, none⟩) p.ats.length hc, .slice (some ⟨ga, 0, none⟩) p.gr.length gc, .int .i64 p.tall, .int .i64 p.lo, .int .i64 p.hi], .slice (some ⟨ta, 0, none⟩) T.length tc], .agg #[.slice (some ⟨ha, 0, none⟩) p.ats.length hc, .slice (some ⟨ga, 0, none⟩) p.gr.length gc, .int .i64 p.tall, .int .i64 p.lo, .int .i64 p.hi], .slice (some ⟨ta, 0, none⟩) T.length tc, .pointer (some ⟨q, 0, none⟩), .slice (some ⟨ha, 0, none⟩) p.ats.length hc, .int .i64 p.ats.length, .int .i64 wd, .agg #[.int .i64 0, .int .i64 0], x41, .pointer (some ⟨q, 1, none⟩), .slice (some ⟨ga, 0, none⟩) p.gr.length gc, x44, .agg #[.int .i64 0, .int .i64 0], x46, x47, .pointer (some ⟨q, 0, none⟩), .slice (some ⟨ha, 0, none⟩) p.ats.length hc, .int .i64 p.ats.length, .int .i64 wd, x52, x53, undef, undef, undef, undef, undef, undef, undef, undef, undef, undef, undef, undef, undef, undef, undef, undef, undef, undef, undef, undef, undef, undef, undef, undef, undef, undef, undef, undef, undef, undef, undef, undef, undef, undef, undef, undef, undef, undef, undef, undef, undef, undef, undef, undef, undef, undef, undef, undef, undef, undef, undef, undef, undef, undef, undef, undef, undef, undef, undef, undef, undef, undef, undef, undef, undef, undef, undef, undef, undef, undef, undef, undef, undef, undef, undef, undef, undef, undef, undef, undef, undef, undef, undef, undef, undef, undef, undef, undef, undef, undef, undef, undef, undef, undef, undef, undef, undef, undef, undef, undef, undef, undef, undef, undef, undef, undef, undef, undef, undef, undef, undef, undef, undef, undef, undef, undef, undef, undef, undef, undef, undef, undef, undef, undef, undef, undef, undef, undef, undef, undef, undef, undef, undef, undef, undef, undef, undef, undef, undef, undef], defers := [] } ∧ Mem w S d1 0 [rwI (.slice (some ⟨ha, 0, none⟩) p.ats.length hc) p.ats.length p.ats, rwS (.slice (some ⟨ga, 0, none⟩) p.gr.length gc) p.gr.length p.gr, rwI (.slice (some ⟨ta, 0, none⟩) T.length tc) T.length T] (onR (done 5) (cond (done 11) (rwS x47 (1 + p.gr.length + 1) ([(0, 0)] ++ p.gr ++ [(0, 0)])) (cond (done 8) (rwS x44 (1 + p.gr.length) ([(0, 0)] ++ p.gr)) (rwS x41 1 [(0, 0)]))) ++ (onR (done 10) (rwS x46 1 [(0, 0)]) ++ (onR (done 16) (rwI x52 (p.ats.length + 2) (zeros (p.ats.length + 2))) ++ []))) (onX (done 18) pb (cond (done 19) (boxG wd x47 x52) zeroG) ++ [(q, Obj.cells #[.slice (some ⟨ha, 0, none⟩) p.ats.length hc, .slice (some ⟨ga, 0, none⟩) p.gr.length gc, .int .i64 p.tall, .int .i64 p.lo, .int .i64 p.hi] 30 (0, 0))]) W ∧ (done 5 = true → ∃ b, x41 = .slice (some ⟨b, 0, none⟩) 1 1) ∧ (done 8 = true → done 5 = true) ∧ (done 10 = true → ∃ b, x46 = .slice (some ⟨b, 0, none⟩) 1 1) ∧ (done 11 = true → done 8 = true ∧ done 10 = true) ∧ (done 17 = true → done 11 = true ∧ done 16 = true ∧ x53 = .agg #[.int .i64 wd, x47, x52]) ∧ (done 18 = true → x9 = .pointer (some ⟨pb, 0, none⟩)) ∧ (done 19 = true → done 17 = true ∧ done 18 = true)) (fun _ => trivial) (by kernel_rfl) rfl rfl ?hC ?step ?fin ⟨undef, undef, undef, undef, undef, undef, undef, 0, rfl, HK1.out.drew, fun h => (by cases h), fun h => (by cases h), fun h => (by cases h), fun h => (by cases h), fun h => (by cases h), fun h => (by cases h), fun h => (by cases h)⟩
  case hC =>
    rintro done a W ⟨x41, x44, x46, x47, x52, x53, x9, pb, rfl, H, e5, e8, e10, e11, e17, e18, e19⟩
    exact H.box5 (t := 30) (by simp)
  case step =>
    intro i o hi ho done a W hd hdep hS K hK
    obtain ⟨x41, x44, x46, x47, x52, x53, x9, pb, rfl, H, e5, e8, e10, e11, e17, e18, e19⟩ := hS
    simp only [List.mem_cons, List.not_mem_nil, or_false] at hi
    rcases hi with rfl | rfl | rfl | rfl | rfl | rfl | rfl | rfl
    · cases ho
      clear hdep
      have n8 : done 8 = false := by
        cases h : done 8 with
        | false => rfl
        | true => exact absurd (e8 h) (by rw [hd]; decide)
      have n11 : done 11 = false := by
        cases h : done 11 with
        | false => rfl
        | true => exact absurd ((e11 h).1) (by rw [n8]; decide)
      rw [onR_no hd] at H
      go_simp
      refine hK _ _ ?_
      have H1 := Mem.insOne (Q1 := []) (e := 28) H (xs := [.int .i64 0, .int .i64 0]) rfl (by decide)
      refine ⟨_, x44, x46, x47, x52, x53, x9, pb, rfl, ?_, fun _ => ⟨_, rfl⟩, (fun h => by have h : done 8 = true := h; rw [n8] at h; cases h), e10, e11, e17, e18, e19⟩
      show Mem w S d1 0 [rwI (.slice (some ⟨ha, 0, none⟩) p.ats.length hc) p.ats.length p.ats, rwS (.slice (some ⟨ga, 0, none⟩) p.gr.length gc) p.gr.length p.gr, rwI (.slice (some ⟨ta, 0, none⟩) T.length tc) T.length T] (onR (true) (cond (done 11) (rwS x47 (1 + p.gr.length + 1) ([(0, 0)] ++ p.gr ++ [(0, 0)])) (cond (done 8) (rwS x44 (1 + p.gr.length) ([(0, 0)] ++ p.gr)) (rwS (.slice (some ⟨W.heap.size, 0, none⟩) 1 1) 1 [(0, 0)]))) ++ (onR (done 10) (rwS x46 1 [(0, 0)]) ++ (onR (done 16) (rwI x52 (p.ats.length + 2) (zeros (p.ats.length + 2))) ++ []))) (onX (done 18) pb (cond (done 19) (boxG wd x47 x52) zeroG) ++ [(q, Obj.cells #[.slice (some ⟨ha, 0, none⟩) p.ats.length hc, .slice (some ⟨ga, 0, none⟩) p.gr.length gc, .int .i64 p.tall, .int .i64 p.lo, .int .i64 p.hi] 30 (0, 0))]) _
      rw [n11, n8]
      exact H1
    · cases ho
      have h5 := hdep 5 (by kernel_rfl) (by simp)
      clear hdep
      have n11 : done 11 = false := by
        cases h : done 11 with
        | false => rfl
        | true => exact absurd ((e11 h).1) (by rw [hd]; decide)
      have n17 : done 17 = false := by
        cases h : done 17 with
        | false => rfl
        | true => exact absurd ((e17 h).1) (by rw [n11]; decide)
      have n19 : done 19 = false := by
        cases h : done 19 with
        | false => rfl
        | true => exact absurd ((e19 h).1) (by rw [n17]; decide)
      rw [onR_yes h5, n11, hd] at H
      obtain ⟨ba, rfl⟩ := e5 h5
      obtain ⟨v', W', hrun, hown, hgrow, -, hat⟩ := run_append_own_at (P := Try.prog) W S 26 26 28 i0 (.agg #[.int .i64 0, .int .i64 0]) 2 16 Try.underlying26 HSP.out.1 HSP.out.2.1 HSP.out.2.2.1 HSP.out.2.2.2 rfl (by decide) _ _ _ (show W.ownsRow S 28 2 (.slice (some ⟨ba, 0, none⟩) 1 1) 1 (spans [(0, 0)]) from H.own (.inr (List.mem_append_left _ (List.mem_singleton.2 rfl)))) ⟨ga, 0, none⟩ (p.gr.length) _ (spans p.gr) (spans_length _) (fun j u hj => World.ownsRow.cells (H.own (r := rwS (.slice (some ⟨ga, 0, none⟩) p.gr.length gc) p.gr.length p.gr) (.inl (by simp))) (g := ga) rfl j u hj) (fun u hu => by obtain ⟨s, -, hs⟩ := List.mem_flatMap.1 hu; simp only [List.mem_cons, List.not_mem_nil, or_false] at hs; rcases hs with rfl | rfl <;> rfl) (by have := HLN.out; unfold maxLen; omega) (by have := HLN.out; omega) H.o.2.2
      refine Lim.append_upon rfl rfl rfl hrun (hK _ _ ?_)
      simp only [Act.put, List.setIfInBounds_toArray, List.set_cons_succ, List.set_cons_zero]
      have H1 := Mem.moreS (Q1 := []) (A := [(0, 0)]) (B := p.gr) H hown hgrow hat
      refine ⟨_, _, x46, x47, x52, x53, x9, pb, rfl, ?_, fun _ => ⟨_, rfl⟩, fun _ => h5, e10, (fun h => by have h : done 11 = true := h; rw [n11] at h; cases h), e17, e18, e19⟩
      show Mem w S d1 0 [rwI (.slice (some ⟨ha, 0, none⟩) p.ats.length hc) p.ats.length p.ats, rwS (.slice (some ⟨ga, 0, none⟩) p.gr.length gc) p.gr.length p.gr, rwI (.slice (some ⟨ta, 0, none⟩) T.length tc) T.length T] (onR (done 5) (cond (done 11) (rwS x47 (1 + p.gr.length + 1) ([(0, 0)] ++ p.gr ++ [(0, 0)])) (cond (true) (rwS v' (1 + p.gr.length) ([(0, 0)] ++ p.gr)) (rwS (.slice (some ⟨ba, 0, none⟩) 1 1) 1 [(0, 0)]))) ++ (onR (done 10) (rwS x46 1 [(0, 0)]) ++ (onR (done 16) (rwI x52 (p.ats.length + 2) (zeros (p.ats.length + 2))) ++ []))) (onX (done 18) pb (cond (done 19) (boxG wd x47 x52) zeroG) ++ [(q, Obj.cells #[.slice (some ⟨ha, 0, none⟩) p.ats.length hc, .slice (some ⟨ga, 0, none⟩) p.gr.length gc, .int .i64 p.tall, .int .i64 p.lo, .int .i64 p.hi] 30 (0, 0))]) _
      rw [onR_yes h5, n11]
      exact H1
    · cases ho
      clear hdep
      have n11 : done 11 = false := by
        cases h : done 11 with
        | false => rfl
        | true => exact absurd ((e11 h).2) (by rw [hd]; decide)
      rw [onR_no hd] at H
      go_simp
      refine hK _ _ ?_
      have H1 := Mem.insOne (Q1 := onR (done 5) (cond (done 11) (rwS x47 (1 + p.gr.length + 1) ([(0, 0)] ++ p.gr ++ [(0, 0)])) (cond (done 8) (rwS x44 (1 + p.gr.length) ([(0, 0)] ++ p.gr)) (rwS x41 1 [(0, 0)])))) (e := 28) H (xs := [.int .i64 0, .int .i64 0]) rfl (by decide)
      refine ⟨x41, x44, _, x47, x52, x53, x9, pb, rfl, ?_, e5, e8, fun _ => ⟨_, rfl⟩, (fun h => by have h : done 11 = true := h; rw [n11] at h; cases h), e17, e18, e19⟩
      show Mem w S d1 0 [rwI (.slice (some ⟨ha, 0, none⟩) p.ats.length hc) p.ats.length p.ats, rwS (.slice (some ⟨ga, 0, none⟩) p.gr.length gc) p.gr.length p.gr, rwI (.slice (some ⟨ta, 0, none⟩) T.length tc) T.length T] (onR (done 5) (cond (done 11) (rwS x47 (1 + p.gr.length + 1) ([(0, 0)] ++ p.gr ++ [(0, 0)])) (cond (done 8) (rwS x44 (1 + p.gr.length) ([(0, 0)] ++ p.gr)) (rwS x41 1 [(0, 0)]))) ++ (onR (true) (rwS (.slice (some ⟨W.heap.size, 0, none⟩) 1 1) 1 [(0, 0)]) ++ (onR (done 16) (rwI x52 (p.ats.length + 2) (zeros (p.ats.length + 2))) ++ []))) (onX (done 18) pb (cond (done 19) (boxG wd x47 x52) zeroG) ++ [(q, Obj.cells #[.slice (some ⟨ha, 0, none⟩) p.ats.length hc, .slice (some ⟨ga, 0, none⟩) p.gr.length gc, .int .i64 p.tall, .int .i64 p.lo, .int .i64 p.hi] 30 (0, 0))]) _
      exact H1
    · cases ho
      have h8 := hdep 8 (by kernel_rfl) (by simp)
      have h10 := hdep 10 (by kernel_rfl) (by simp)
      clear hdep
      have h5 := e8 h8
      have n17 : done 17 = false := by
        cases h : done 17 with
        | false => rfl
        | true => exact absurd ((e17 h).1) (by rw [hd]; decide)
      have n19 : done 19 = false := by
        cases h : done 19 with
        | false => rfl
        | true => exact absurd ((e19 h).1) (by rw [n17]; decide)
      rw [onR_yes h5, onR_yes h10, hd, h8, n19] at H
      obtain ⟨bb, rfl⟩ := e10 h10
      obtain ⟨g44, c44, rfl⟩ : ∃ g cap, x44 = .slice (some ⟨g, 0, none⟩) (1 + p.gr.length) cap := form_pos (r := rwS x44 (1 + p.gr.length) ([(0, 0)] ++ p.gr)) (H.q _ (List.mem_append_left _ (List.mem_singleton.2 rfl))) (show 0 < 1 + p.gr.length by omega)
      obtain ⟨v', W', hrun, hown, hgrow, -, hat⟩ := run_append_own_at (P := Try.prog) W S 26 26 28 i0 (.agg #[.int .i64 0, .int .i64 0]) 2 16 Try.underlying26 HSP.out.1 HSP.out.2.1 HSP.out.2.2.1 HSP.out.2.2.2 rfl (by decide) _ _ _ (show W.ownsRow S 28 2 (.slice (some ⟨g44, 0, none⟩) (1 + p.gr.length) c44) (1 + p.gr.length) (spans ([(0, 0)] ++ p.gr)) from H.own (.inr (List.mem_append_left _ (List.mem_singleton.2 rfl)))) ⟨bb, 0, none⟩ (1) _ (spans [(0, 0)]) rfl (fun j u hj => World.ownsRow.cells (H.own (r := rwS (.slice (some ⟨bb, 0, none⟩) 1 1) 1 [(0, 0)]) (.inr (List.mem_append_right _ (List.mem_append_left _ (List.mem_singleton.2 rfl))))) (g := bb) rfl j u hj) (fun u hu => by obtain ⟨s, -, hs⟩ := List.mem_flatMap.1 hu; simp only [List.mem_cons, List.not_mem_nil, or_false] at hs; rcases hs with rfl | rfl <;> rfl) (by have := HLN.out; unfold maxLen; omega) (by have := HLN.out; omega) H.o.2.2
      refine Lim.append_upon rfl rfl rfl hrun (hK _ _ ?_)
      simp only [Act.put, List.setIfInBounds_toArray, List.set_cons_succ, List.set_cons_zero]
      have H1 := Mem.moreS (Q1 := []) (A := [(0, 0)] ++ p.gr) (B := [(0, 0)]) H hown hgrow hat
      refine ⟨x41, _, _, _, x52, x53, x9, pb, rfl, ?_, e5, e8, fun _ => ⟨_, rfl⟩, fun _ => ⟨h8, h10⟩, (fun h => by have h : done 17 = true := h; rw [n17] at h; cases h), e18, e19⟩
      show Mem w S d1 0 [rwI (.slice (some ⟨ha, 0, none⟩) p.ats.length hc) p.ats.length p.ats, rwS (.slice (some ⟨ga, 0, none⟩) p.gr.length gc) p.gr.length p.gr, rwI (.slice (some ⟨ta, 0, none⟩) T.length tc) T.length T] (onR (done 5) (cond (true) (rwS v' (1 + p.gr.length + 1) ([(0, 0)] ++ p.gr ++ [(0, 0)])) (cond (done 8) (rwS (.slice (some ⟨g44, 0, none⟩) (1 + p.gr.length) c44) (1 + p.gr.length) ([(0, 0)] ++ p.gr)) (rwS x41 1 [(0, 0)]))) ++ (onR (done 10) (rwS (.slice (some ⟨bb, 0, none⟩) 1 1) 1 [(0, 0)]) ++ (onR (done 16) (rwI x52 (p.ats.length + 2) (zeros (p.ats.length + 2))) ++ []))) (onX (done 18) pb (cond (done 19) (boxG wd v' x52) zeroG) ++ [(q, Obj.cells #[.slice (some ⟨ha, 0, none⟩) p.ats.length hc, .slice (some ⟨ga, 0, none⟩) p.gr.length gc, .int .i64 p.tall, .int .i64 p.lo, .int .i64 p.hi] 30 (0, 0))]) _
      rw [onR_yes h5, onR_yes h10, n19]
      exact H1
    · cases ho
      clear hdep
      have n17 : done 17 = false := by
        cases h : done 17 with
        | false => rfl
        | true => exact absurd ((e17 h).2.1) (by rw [hd]; decide)
      have n19 : done 19 = false := by
        cases h : done 19 with
        | false => rfl
        | true => exact absurd ((e19 h).1) (by rw [n17]; decide)
      rw [onR_no hd, n19] at H
      obtain ⟨v', W', hrun, ho1, hb, -⟩ := make_zeros (W := W) HIN.out (n := p.ats.length + 2) (by have := HLN.out; omega)
      rw [show ((p.ats.length + 2 : Nat) : Int) = wd from by have := HWD.out; omega] at hrun
      refine make_upon rfl rfl rfl hrun (hK _ _ ?_)
      simp only [Act.put, List.setIfInBounds_toArray, List.set_cons_succ, List.set_cons_zero]
      have H1 := (Mem.insQ (Q1 := onR (done 5) (cond (done 11) (rwS x47 (1 + p.gr.length + 1) ([(0, 0)] ++ p.gr ++ [(0, 0)])) (cond (done 8) (rwS x44 (1 + p.gr.length) ([(0, 0)] ++ p.gr)) (rwS x41 1 [(0, 0)]))) ++ onR (done 10) (rwS x46 1 [(0, 0)])) (Q2 := []) H.assocQ hb ho1).unassocQ
      refine ⟨x41, x44, x46, x47, _, x53, x9, pb, rfl, ?_, e5, e8, e10, e11, (fun h => by have h : done 17 = true := h; rw [n17] at h; cases h), e18, e19⟩
      show Mem w S d1 0 [rwI (.slice (some ⟨ha, 0, none⟩) p.ats.length hc) p.ats.length p.ats, rwS (.slice (some ⟨ga, 0, none⟩) p.gr.length gc) p.gr.length p.gr, rwI (.slice (some ⟨ta, 0, none⟩) T.length tc) T.length T] (onR (done 5) (cond (done 11) (rwS x47 (1 + p.gr.length + 1) ([(0, 0)] ++ p.gr ++ [(0, 0)])) (cond (done 8) (rwS x44 (1 + p.gr.length) ([(0, 0)] ++ p.gr)) (rwS x41 1 [(0, 0)]))) ++ (onR (done 10) (rwS x46 1 [(0, 0)]) ++ (onR (true) (rwI v' (p.ats.length + 2) (zeros (p.ats.length + 2))) ++ []))) (onX (done 18) pb (cond (done 19) (boxG wd x47 v') zeroG) ++ [(q, Obj.cells #[.slice (some ⟨ha, 0, none⟩) p.ats.length hc, .slice (some ⟨ga, 0, none⟩) p.gr.length gc, .int .i64 p.tall, .int .i64 p.lo, .int .i64 p.hi] 30 (0, 0))]) _
      rw [n19]
      exact H1
    · cases ho
      have h11 := hdep 11 (by kernel_rfl) (by simp)
      have h16 := hdep 16 (by kernel_rfl) (by simp)
      clear hdep
      have h5 := e8 (e11 h11).1
      have H0 := H
      rw [onR_yes h5, h11, onR_yes h16] at H0
      obtain ⟨g47, c47, rfl⟩ : ∃ g cap, x47 = .slice (some ⟨g, 0, none⟩) (1 + p.gr.length + 1) cap := form_pos (r := rwS x47 (1 + p.gr.length + 1) ([(0, 0)] ++ p.gr ++ [(0, 0)])) (H0.q _ (List.mem_append_left _ (List.mem_singleton.2 rfl))) (show 0 < 1 + p.gr.length + 1 by omega)
      obtain ⟨g52, c52, rfl⟩ : ∃ g cap, x52 = .slice (some ⟨g, 0, none⟩) (p.ats.length + 2) cap := form_pos (r := rwI x52 (p.ats.length + 2) (zeros (p.ats.length + 2))) (H0.q _ (List.mem_append_right _ (List.mem_append_right _ (List.mem_append_left _ (List.mem_singleton.2 rfl))))) (show 0 < p.ats.length + 2 by omega)
      clear H0
      go_simp
      refine hK _ _ ?_
      exact ⟨x41, x44, x46, _, _, _, x9, pb, rfl, H, e5, e8, e10, e11, fun _ => ⟨h11, h16, rfl⟩, e18, fun h => ⟨rfl, (e19 h).2⟩⟩
    · cases ho
      clear hdep
      have n19 : done 19 = false := by
        cases h : done 19 with
        | false => rfl
        | true => exact absurd ((e19 h).2) (by rw [hd]; decide)
      rw [onX_no hd] at H
      go_simp
      refine hK _ _ ?_
      have H1 := Mem.insX (X1 := []) H zeroG
      refine ⟨x41, x44, x46, x47, x52, x53, _, W.heap.size, rfl, ?_, e5, e8, e10, e11, e17, fun _ => rfl, (fun h => by have h : done 19 = true := h; rw [n19] at h; cases h)⟩
      show Mem w S d1 0 [rwI (.slice (some ⟨ha, 0, none⟩) p.ats.length hc) p.ats.length p.ats, rwS (.slice (some ⟨ga, 0, none⟩) p.gr.length gc) p.gr.length p.gr, rwI (.slice (some ⟨ta, 0, none⟩) T.length tc) T.length T] (onR (done 5) (cond (done 11) (rwS x47 (1 + p.gr.length + 1) ([(0, 0)] ++ p.gr ++ [(0, 0)])) (cond (done 8) (rwS x44 (1 + p.gr.length) ([(0, 0)] ++ p.gr)) (rwS x41 1 [(0, 0)]))) ++ (onR (done 10) (rwS x46 1 [(0, 0)]) ++ (onR (done 16) (rwI x52 (p.ats.length + 2) (zeros (p.ats.length + 2))) ++ []))) (onX (true) W.heap.size (cond (done 19) (boxG wd x47 x52) zeroG) ++ [(q, Obj.cells #[.slice (some ⟨ha, 0, none⟩) p.ats.length hc, .slice (some ⟨ga, 0, none⟩) p.gr.length gc, .int .i64 p.tall, .int .i64 p.lo, .int .i64 p.hi] 30 (0, 0))]) _
      rw [n19]
      exact H1
    · cases ho
      have h17 := hdep 17 (by kernel_rfl) (by simp)
      have h18 := hdep 18 (by kernel_rfl) (by simp)
      clear hdep
      obtain ⟨h11, h16, rfl⟩ := e17 h17
      obtain rfl := e18 h18
      have h8 := (e11 h11).1
      have h5 := e8 h8
      rw [onX_yes h18, hd, onR_yes h5, h11, onR_yes h16] at H
      obtain ⟨g47, c47, rfl⟩ : ∃ g cap, x47 = .slice (some ⟨g, 0, none⟩) (1 + p.gr.length + 1) cap := form_pos (r := rwS x47 (1 + p.gr.length + 1) ([(0, 0)] ++ p.gr ++ [(0, 0)])) (H.q _ (List.mem_append_left _ (List.mem_singleton.2 rfl))) (show 0 < 1 + p.gr.length + 1 by omega)
      obtain ⟨g52, c52, rfl⟩ : ∃ g cap, x52 = .slice (some ⟨g, 0, none⟩) (p.ats.length + 2) cap := form_pos (r := rwI x52 (p.ats.length + 2) (zeros (p.ats.length + 2))) (H.q _ (List.mem_append_right _ (List.mem_append_right _ (List.mem_append_left _ (List.mem_singleton.2 rfl))))) (show 0 < p.ats.length + 2 by omega)
      obtain ⟨⟨z0, z1, z2⟩, y0, y1, y2⟩ := three_cellsD (show W.heap[pb]? = some (.cells #[.int .i64 0, .slice none 0 0, .slice none 0 0] 34 (0, 0)) from (H.x (pb, zeroG) (by simp)).2)
      go_simp
      clear z0 z1 z2 y0 y1 y2
      refine hK _ _ ?_
      have H1 := Mem.put3 (X1 := []) H (.int .i64 wd) (.slice (some ⟨g47, 0, none⟩) (1 + p.gr.length + 1) c47) (.slice (some ⟨g52, 0, none⟩) (p.ats.length + 2) c52)
      refine ⟨x41, x44, x46, _, _, _, _, pb, rfl, ?_, e5, e8, e10, e11, fun _ => ⟨h11, h16, rfl⟩, fun _ => rfl, fun _ => ⟨h17, h18⟩⟩
      show Mem w S d1 0 [rwI (.slice (some ⟨ha, 0, none⟩) p.ats.length hc) p.ats.length p.ats, rwS (.slice (some ⟨ga, 0, none⟩) p.gr.length gc) p.gr.length p.gr, rwI (.slice (some ⟨ta, 0, none⟩) T.length tc) T.length T] (onR (done 5) (cond (done 11) (rwS (.slice (some ⟨g47, 0, none⟩) (1 + p.gr.length + 1) c47) (1 + p.gr.length + 1) ([(0, 0)] ++ p.gr ++ [(0, 0)])) (cond (done 8) (rwS x44 (1 + p.gr.length) ([(0, 0)] ++ p.gr)) (rwS x41 1 [(0, 0)]))) ++ (onR (done 10) (rwS x46 1 [(0, 0)]) ++ (onR (done 16) (rwI (.slice (some ⟨g52, 0, none⟩) (p.ats.length + 2) c52) (p.ats.length + 2) (zeros (p.ats.length + 2))) ++ []))) (onX (done 18) pb (cond (true) (boxG wd (.slice (some ⟨g47, 0, none⟩) (1 + p.gr.length + 1) c47) (.slice (some ⟨g52, 0, none⟩) (p.ats.length + 2) c52)) zeroG) ++ [(q, Obj.cells #[.slice (some ⟨ha, 0, none⟩) p.ats.length hc, .slice (some ⟨ga, 0, none⟩) p.gr.length gc, .int .i64 p.tall, .int .i64 p.lo, .int .i64 p.hi] 30 (0, 0))]) _
      rw [onX_yes h18, onR_yes h5, h11, onR_yes h16]
      exact H1
  case fin =>
    rintro done a W hall ⟨x41, x44, x46, x47, x52, x53, x9, pb, rfl, H, e5, e8, e10, e11, e17, e18, e19⟩
    replace e5 := e5 (hall 5 (by simp))
    replace e8 := e8 (hall 8 (by simp))
    replace e10 := e10 (hall 10 (by simp))
    replace e11 := e11 (hall 11 (by simp))
    replace e17 := e17 (hall 17 (by simp))
    replace e18 := e18 (hall 18 (by simp))
    replace e19 := e19 (hall 19 (by simp))
    obtain ⟨-, -, rfl⟩ := e17
    obtain rfl := e18
    rw [onR_yes (hall 5 (by simp)), onR_yes (hall 10 (by simp)), onR_yes (hall 16 (by simp)), onX_yes (hall 18 (by simp)), hall 11 (by simp), hall 19 (by simp)] at H
    obtain ⟨gg, hc2, rfl⟩ : ∃ g cap, x47 = .slice (some ⟨g, 0, none⟩) (1 + p.gr.length + 1) cap := form_pos (r := rwS x47 (1 + p.gr.length + 1) ([(0, 0)] ++ p.gr ++ [(0, 0)])) (H.q _ (List.mem_append_left _ (List.mem_singleton.2 rfl))) (show 0 < 1 + p.gr.length + 1 by omega)
    obtain ⟨gs, sc, rfl⟩ : ∃ g cap, x52 = .slice (some ⟨g, 0, none⟩) (p.ats.length + 2) cap := form_pos (r := rwI x52 (p.ats.length + 2) (zeros (p.ats.length + 2))) (H.q _ (List.mem_append_right _ (List.mem_append_right _ (List.mem_append_left _ (List.mem_singleton.2 rfl))))) (show 0 < p.ats.length + 2 by omega)
    have HK2 : Hid (Mem w S d1 0 [rwI (.slice (some ⟨ha, 0, none⟩) p.ats.length hc) p.ats.length p.ats, rwS (.slice (some ⟨ga, 0, none⟩) p.gr.length gc) p.gr.length p.gr, rwI (.slice (some ⟨ta, 0, none⟩) T.length tc) T.length T] [rwS (.slice (some ⟨gg, 0, none⟩) (1 + p.gr.length + 1) hc2) (1 + p.gr.length + 1) ([(0, 0)] ++ p.gr ++ [(0, 0)]), rwI (.slice (some ⟨gs, 0, none⟩) (p.ats.length + 2) sc) (p.ats.length + 2) (zeros (p.ats.length + 2))] [(pb, Obj.cells #[.int .i64 wd, .slice (some ⟨gg, 0, none⟩) (1 + p.gr.length + 1) hc2, .slice (some ⟨gs, 0, none⟩) (p.ats.length + 2) sc] 34 (0, 0)), (q, Obj.cells #[.slice (some ⟨ha, 0, none⟩) p.ats.length hc, .slice (some ⟨ga, 0, none⟩) p.gr.length gc, .int .i64 p.tall, .int .i64 p.lo, .int .i64 p.hi] 30 (0, 0))] W) := Lib.hid (H.less (fun _ h => h) (List.Sublist.cons_cons _ (List.Sublist.cons _ (List.Sublist.refl _))) (List.Sublist.refl _))
    clear H hall HK1 hC e5 e8 e10 e11 e19
    dsimp only
    obtain ⟨l1, hl1⟩ : ∃ l1 : Nat, l1 = p.ats.length + 1 := ⟨_, rfl⟩
    have ew1 : IntKind.i64.wrap ((p.ats.length : Int) + 1) = (l1 : Int) := by rw [hl1]; exact IntWalk.i64_in _ (by omega)
    have hl0 : (0 : Int) < (p.ats.length : Int) + 2 := by omega
    have hl2 : l1 < p.ats.length + 2 := by omega
    have hl3 : (l1 : Int) < (p.ats.length : Int) + 2 := by omega
    obtain ⟨la, hla⟩ : ∃ la : Nat, la = p.ats.length - 1 := ⟨_, rfl⟩
    have ew2 : IntKind.i64.wrap ((p.ats.length : Int) - 1) = (la : Int) := by rw [hla]; have := HLN.out; exact (IntWalk.i64_in _ (by omega)).trans (by omega)
    have HL1 : Hid (l1 = p.ats.length + 1 ∧ la = p.ats.length - 1 ∧ la < p.n ∧ 0 < la) := Lib.hid ⟨hl1, hla, by have := HLN.out; omega, by have := HLN.out; omega⟩
    clear hl1 hla
    go_wp2_with fail
    have hC : (fun W => W.cell? ⟨pb, 2, none⟩ = some (.slice (some ⟨gs, 0, none⟩) (p.ats.length + 2) sc) ∧ W.cell? ⟨q, 0, none⟩ = some (.slice (some ⟨ha, 0, none⟩) p.ats.length hc)) W.drew := ⟨(HK2.out.drew.box3 (q := pb) (a := .int .i64 wd) (b := .slice (some ⟨gg, 0, none⟩) (1 + p.gr.length + 1) hc2) (e := .slice (some ⟨gs, 0, none⟩) (p.ats.length + 2) sc) (t := 34) (by simp)).2.2, (HK2.out.drew.box5 (q := q) (a := .slice (some ⟨ha, 0, none⟩) p.ats.length hc) (b := .slice (some ⟨ga, 0, none⟩) p.gr.length gc) (e := .int .i64 p.tall) (f := .int .i64 p.lo) (g := .int .i64 p.hi) (t := 30) (by simp)).1⟩
    have HKd := Lib.hid HK2.out.drew
    clear HK2
    generalize hW0 : W.drew = wq at HKd hC
    refine Lim.regC' (fun W => W.cell? ⟨pb, 2, none⟩ = some (.slice (some ⟨gs, 0, none⟩) (p.ats.length + 2) sc) ∧ W.cell? ⟨q, 0, none⟩ = some (.slice (some ⟨ha, 0, none⟩) p.ats.length hc)) [] #[false, false, false, false, false, false, false, false, false, false, false, false] (by kernel_rfl) rfl ?_
    rw [hW0]; clear hW0
    refine Lim.stepR 0 (fun _ => trivial) rfl (by kernel_rfl) (fun _ _ _ _ h => h) hC rfl ?_; apply Exists.intro; refine ⟨?_, ?_⟩
    · rintro w ⟨r0, r1⟩; go_simp; try with_reducible rfl
    simp only [Act.put, List.setIfInBounds_toArray, List.set_cons_succ, List.set_cons_zero]
    refine Lim.stepR 1 (fun _ => trivial) rfl (by kernel_rfl) (fun _ _ _ _ h => h) hC rfl ?_; apply Exists.intro; refine ⟨?_, ?_⟩
    · rintro w ⟨r0, r1⟩; go_simp; try with_reducible rfl
    simp only [Act.put, List.setIfInBounds_toArray, List.set_cons_succ, List.set_cons_zero]
    refine Lim.stepR 2 (fun _ => trivial) rfl (by kernel_rfl) (fun _ _ _ _ h => h) hC rfl ?_; apply Exists.intro; refine ⟨?_, ?_⟩
    · rintro w ⟨r0, r1⟩; go_simp; try with_reducible rfl
    simp only [Act.put, List.setIfInBounds_toArray, List.set_cons_succ, List.set_cons_zero]
    refine Lim.stepR 3 (fun _ => trivial) rfl (by kernel_rfl) (fun _ _ _ _ h => h) hC rfl ?_; apply Exists.intro; refine ⟨?_, ?_⟩
    · rintro w ⟨r0, r1⟩; go_simp; try with_reducible rfl
    simp only [Act.put, List.setIfInBounds_toArray, List.set_cons_succ, List.set_cons_zero]
    refine Lim.stepR 4 (fun _ => trivial) rfl (by kernel_rfl) (fun _ _ _ _ h => h) hC rfl ?_; apply Exists.intro; refine ⟨?_, ?_⟩
    · rintro w ⟨r0, r1⟩; go_simp; try with_reducible rfl
    simp only [Act.put, List.setIfInBounds_toArray, List.set_cons_succ, List.set_cons_zero]
    refine Lim.stepR 5 (fun _ => trivial) rfl (by kernel_rfl) (fun _ _ _ _ h => h) hC rfl ?_; apply Exists.intro; refine ⟨?_, ?_⟩
    · rintro w ⟨r0, r1⟩; go_simp; try with_reducible rfl
    simp only [Act.put, List.setIfInBounds_toArray, List.set_cons_succ, List.set_cons_zero]
    refine Lim.stepR 6 (fun _ => trivial) rfl (by kernel_rfl) (fun _ _ _ _ h => h) hC rfl ?_; apply Exists.intro; refine ⟨?_, ?_⟩
    · rintro w ⟨r0, r1⟩; go_simp; try with_reducible rfl
    simp only [Act.put, List.setIfInBounds_toArray, List.set_cons_succ, List.set_cons_zero]
    refine Lim.stepR 7 (fun _ => trivial) rfl (by kernel_rfl) (fun _ _ _ _ h => h) hC rfl ?_; apply Exists.intro; refine ⟨?_, ?_⟩
    · rintro w ⟨r0, r1⟩; go_simp; try with_reducible rfl
    simp only [Act.put, List.setIfInBounds_toArray, List.set_cons_succ, List.set_cons_zero]
    refine Lim.stepR 8 (fun _ => trivial) rfl (by kernel_rfl) (fun _ _ _ _ h => h) hC rfl ?_; apply Exists.intro; refine ⟨?_, ?_⟩
    · rintro w ⟨r0, r1⟩; go_simp; try with_reducible rfl
    simp only [Act.put, List.setIfInBounds_toArray, List.set_cons_succ, List.set_cons_zero]
    refine Lim.stepE 9 (fun _ => trivial) rfl (by kernel_rfl) rfl (fun K hK => ?_)   -- E store
    have z0 : wq.cell? ⟨gs, 0, none⟩ = _ := HKd.out.cellI (g := gs) (n := p.ats.length + 2) (cap := sc) (l := (zeros (p.ats.length + 2))) (.inr (by simp)) (by have := HL1.out; first | (rw [zeros_len]; omega) | (rw [List.length_set, zeros_len]; omega))
    have z1 : wq.frozen? ⟨gs, 0, none⟩ = false := row_frz (HKd.out.q (rwI (.slice (some ⟨gs, 0, none⟩) (p.ats.length + 2) sc) (p.ats.length + 2) ((zeros (p.ats.length + 2)))) (by simp)) rfl 0
    go_simp
    have HKe := Lib.hid (Mem.setI (l := (zeros (p.ats.length + 2))) (Q1 := [_]) (Q2 := []) HKd.out 0 1)
    have hC2 : (fun W => W.cell? ⟨pb, 2, none⟩ = some (.slice (some ⟨gs, 0, none⟩) (p.ats.length + 2) sc) ∧ W.cell? ⟨q, 0, none⟩ = some (.slice (some ⟨ha, 0, none⟩) p.ats.length hc)) (wq.setCell ⟨gs, 0, none⟩ (.int .i64 1)) := ⟨(HKe.out.box3 (q := pb) (a := .int .i64 wd) (b := .slice (some ⟨gg, 0, none⟩) (1 + p.gr.length + 1) hc2) (e := .slice (some ⟨gs, 0, none⟩) (p.ats.length + 2) sc) (t := 34) (by simp)).2.2, (HKe.out.box5 (q := q) (a := .slice (some ⟨ha, 0, none⟩) p.ats.length hc) (b := .slice (some ⟨ga, 0, none⟩) p.gr.length gc) (e := .int .i64 p.tall) (f := .int .i64 p.lo) (g := .int .i64 p.hi) (t := 30) (by simp)).1⟩
    refine hK _ _ hC2 ?_
    clear z0 z1 hK HKd
    generalize wq.setCell ⟨gs, 0, none⟩ (.int .i64 1) = we at HKe hC2 ⊢
    simp only [Act.put, List.setIfInBounds_toArray, List.set_cons_succ, List.set_cons_zero]
    refine Lim.stepR 10 (fun _ => trivial) rfl (by kernel_rfl) (fun _ _ _ _ h => h) hC2 rfl ?_; apply Exists.intro; refine ⟨?_, ?_⟩
    · rintro w ⟨r0, r1⟩; go_simp; try with_reducible rfl
    simp only [Act.put, List.setIfInBounds_toArray, List.set_cons_succ, List.set_cons_zero]
    refine Lim.stepE 11 (fun _ => trivial) rfl (by kernel_rfl) rfl (fun K hK => ?_)   -- E store
    have z0 : we.cell? ⟨gs, l1, none⟩ = _ := HKe.out.cellI (g := gs) (n := p.ats.length + 2) (cap := sc) (l := ((zeros (p.ats.length + 2)).set 0 1)) (.inr (by simp)) (by have := HL1.out; first | (rw [zeros_len]; omega) | (rw [List.length_set, zeros_len]; omega))
    have z1 : we.frozen? ⟨gs, l1, none⟩ = false := row_frz (HKe.out.q (rwI (.slice (some ⟨gs, 0, none⟩) (p.ats.length + 2) sc) (p.ats.length + 2) (((zeros (p.ats.length + 2)).set 0 1))) (by simp)) rfl l1
    go_simp
    have HKf := Lib.hid (Mem.setI (l := ((zeros (p.ats.length + 2)).set 0 1)) (Q1 := [_]) (Q2 := []) HKe.out l1 2)
    have hC3 : (fun W => W.cell? ⟨pb, 2, none⟩ = some (.slice (some ⟨gs, 0, none⟩) (p.ats.length + 2) sc) ∧ W.cell? ⟨q, 0, none⟩ = some (.slice (some ⟨ha, 0, none⟩) p.ats.length hc)) (we.setCell ⟨gs, l1, none⟩ (.int .i64 2)) := ⟨(HKf.out.box3 (q := pb) (a := .int .i64 wd) (b := .slice (some ⟨gg, 0, none⟩) (1 + p.gr.length + 1) hc2) (e := .slice (some ⟨gs, 0, none⟩) (p.ats.length + 2) sc) (t := 34) (by simp)).2.2, (HKf.out.box5 (q := q) (a := .slice (some ⟨ha, 0, none⟩) p.ats.length hc) (b := .slice (some ⟨ga, 0, none⟩) p.gr.length gc) (e := .int .i64 p.tall) (f := .int .i64 p.lo) (g := .int .i64 p.hi) (t := 30) (by simp)).1⟩
    refine hK _ _ hC3 ?_
    clear z0 z1 hK HKe
    generalize we.setCell ⟨gs, l1, none⟩ (.int .i64 2) = wf at HKf hC3 ⊢
    simp only [Act.put, List.setIfInBounds_toArray, List.set_cons_succ, List.set_cons_zero]
    refine Lim.stepD (by kernel_rfl) ?_
    clear hC hC2 hC3
    obtain ⟨SS, hSS⟩ : ∃ SS, SS = (((zeros (p.ats.length + 2)).set 0 1).set l1 2) := ⟨_, rfl⟩
    obtain ⟨HS, hHS⟩ : ∃ HS, HS = ([(0, 0)] ++ p.gr ++ [(0, 0)]) := ⟨_, rfl⟩
    have HRP : Hid (Rg.RowP p HS SS) := Lib.hid (by rw [hSS, hHS]; exact Rg.RowP.made (by have := HLN.out; unfold Pf.n; omega) (by have := HL1.out; unfold Pf.n; omega))
    have HK5 : Hid (Mem w S d1 0 [rwI (.slice (some ⟨gs, 0, none⟩) (p.ats.length + 2) sc) (p.ats.length + 2) SS, rwS (.slice (some ⟨gg, 0, none⟩) (1 + p.gr.length + 1) hc2) (1 + p.gr.length + 1) HS, rwI (.slice (some ⟨ha, 0, none⟩) p.ats.length hc) p.ats.length p.ats, rwS (.slice (some ⟨ga, 0, none⟩) p.gr.length gc) p.gr.length p.gr, rwI (.slice (some ⟨ta, 0, none⟩) T.length tc) T.length T] [] [(pb, Obj.cells #[.int .i64 wd, .slice (some ⟨gg, 0, none⟩) (1 + p.gr.length + 1) hc2, .slice (some ⟨gs, 0, none⟩) (p.ats.length + 2) sc] 34 (0, 0)), (q, Obj.cells #[.slice (some ⟨ha, 0, none⟩) p.ats.length hc, .slice (some ⟨ga, 0, none⟩) p.gr.length gc, .int .i64 p.tall, .int .i64 p.lo, .int .i64 p.hi] 30 (0, 0))] wf) := Lib.hid (by rw [hSS, hHS]; exact HKf.out.freeze.freeze)
    have HLS : Hid (HS.length = 1 + p.gr.length + 1 ∧ SS.length = p.ats.length + 2 ∧ wd = ((p.n + 2 : Nat) : Int) ∧ HS.length ≤ 1000 ∧ SS.length ≤ 1000 ∧ ∀ j, j < p.n → (p.g j).2 ≤ 10000) := Lib.hid (by
      have h1 := HLN.out
      have h2 := HWD.out
      have h3 : HS.length = 1 + p.gr.length + 1 := by rw [hHS]; simp; omega
      have h4 : SS.length = p.ats.length + 2 := by rw [hSS, List.length_set, List.length_set, zeros_len]
      have h5 : p.n = p.ats.length := rfl
      exact ⟨h3, h4, by omega, by omega, by omega, fun j hj => by have := (HM.out.h j hj).2.2.2; show (p.gr.getD j (0, 0)).2 ≤ 10000; omega⟩)
    have HHL : Hid (HS.length = p.n + 2) := Lib.hid (by have h1 := HLS.out.1; have h2 := HLN.out; omega)
    clear hSS hHS HKf
    obtain ⟨c0, c1, c2⟩ := HK5.out.box3 (q := pb) (a := .int .i64 wd) (b := .slice (some ⟨gg, 0, none⟩) (1 + p.gr.length + 1) hc2) (e := .slice (some ⟨gs, 0, none⟩) (p.ats.length + 2) sc) (t := 34) (by simp)
    go_wp2_with fail
    refine (Rg.Saddle_any (B := wf.heap.size) (hs := HS) (ss := SS) (Nat.le_refl _) (HK5.out.rsS (v := .slice (some ⟨gg, 0, none⟩) (1 + p.gr.length + 1) hc2) (n := 1 + p.gr.length + 1) (.inl (by simp)) HLS.out.1) (HK5.out.rsI (v := .slice (some ⟨gs, 0, none⟩) (p.ats.length + 2) sc) (n := p.ats.length + 2) (.inl (by simp)) HLS.out.2.1)).mono ?_
    rintro e w6 ⟨sx, sy, er, rfl, hb, hsad⟩
    have HK6 := Lib.hid (HK5.out.grow hb)
    obtain rfl : er = 0 := HRP.out.er HOK.out HLS.out.2.2.2.2.2 HLS.out.2.2.1 hsad
    have HSAD := Lib.hid hsad
    clear hb hsad HK5 c0 c1 c2
    go_upto_region 6 with (fail)
    have HK7 := Lib.hid (HK6.out.lay (.cells #[.int .i64 sx, .int .i64 sy] 28))
    obtain ⟨qs, hqe⟩ : ∃ q, q = w6.heap.size := ⟨_, rfl⟩
    simp only [← hqe] at HK7 ⊢
    generalize w6.alloc (.cells #[.int .i64 sx, .int .i64 sy] 28) = w7 at HK7 ⊢
    clear HK6 hqe
    obtain ⟨b0, b1, b2, b3, b4⟩ := HK7.out.box5 (q := q) (a := .slice (some ⟨ha, 0, none⟩) p.ats.length hc) (b := .slice (some ⟨ga, 0, none⟩) p.gr.length gc) (e := .int .i64 p.tall) (f := .int .i64 p.lo) (g := .int .i64 p.hi) (t := 30) (by simp)
    go_wp2_with fail
    refine (Sees_any (B := w7.heap.size) (Nat.le_refl _) (HK7.out.rsI (v := .slice (some ⟨ha, 0, none⟩) p.ats.length hc) (by simp) rfl) (HK7.out.rsS (v := .slice (some ⟨ga, 0, none⟩) p.gr.length gc) (by simp) rfl)).mono ?_
    rintro e w8 ⟨rfl, hb⟩
    have HK8 := Lib.hid (HK7.out.grow hb)
    clear hb HK7 b0 b1 b2 b3 b4
    rw [show seesAns p 0 (la : Int) = _ from sees_ok (i := 0) (j := la) HOK.out (by have := HOK.out.n2; omega) HL1.out.2.2.1 (by have := HL1.out; omega)]
    obtain ⟨cn, hcn⟩ : ∃ cn, cn = p.sees true false 0 la := ⟨_, rfl⟩
    obtain ⟨sr, hsr⟩ : ∃ sr, sr = p.sure 0 la := ⟨_, rfl⟩
    rw [← hcn, ← hsr]
    have HSR := Lib.hid hsr
    clear hcn hsr
    go_wp2_with fail
    go_loopw [86] (fun i W => ∃ k c : Nat, k ≤ 4 ∧ i = .int .i64 k ∧ Hid (c ≤ 50 * k) ∧ Hid (Mem w S d1 c [rwI (.slice (some ⟨gs, 0, none⟩) (p.ats.length + 2) sc) (p.ats.length + 2) SS, rwS (.slice (some ⟨gg, 0, none⟩) (1 + p.gr.length + 1) hc2) (1 + p.gr.length + 1) HS, rwI (.slice (some ⟨ha, 0, none⟩) p.ats.length hc) p.ats.length p.ats, rwS (.slice (some ⟨ga, 0, none⟩) p.gr.length gc) p.gr.length p.gr, rwI (.slice (some ⟨ta, 0, none⟩) T.length tc) T.length T] [] [(qs, Obj.cells #[.int .i64 sx, .int .i64 sy] 28 (0, 0)), (pb, Obj.cells #[.int .i64 wd, .slice (some ⟨gg, 0, none⟩) (1 + p.gr.length + 1) hc2, .slice (some ⟨gs, 0, none⟩) (p.ats.length + 2) sc] 34 (0, 0)), (q, Obj.cells #[.slice (some ⟨ha, 0, none⟩) p.ats.length hc, .slice (some ⟨ga, 0, none⟩) p.gr.length gc, .int .i64 p.tall, .int .i64 p.lo, .int .i64 p.hi] 30 (0, 0))] W)) (fun i _ => 4 - (intOf i).toNat)
    case atStart => exact ⟨0, 0, by omega, rfl, Lib.hid (Nat.le_refl _), HK8⟩
    case round =>
      as_aux_lemma =>
        clear HK8
        obtain ⟨k, c, hk, rfl, HC, HK⟩ := hrel
        by_cases hlt : k < 4
        · have hk5 : (k : Int) < 4 := by omega
          obtain ⟨b0, b1, b2, b3, b4⟩ := HK.out.box5 (q := q) (a := .slice (some ⟨ha, 0, none⟩) p.ats.length hc) (b := .slice (some ⟨ga, 0, none⟩) p.gr.length gc) (e := .int .i64 p.tall) (f := .int .i64 p.lo) (g := .int .i64 p.hi) (t := 30) (by simp)
          go_wp2_with fail
          refine (drawn_any (S := S) HOK.out HK.out.dk (by have := HC.out; omega) ⟨HK.out.o.2.1, HK.out.o.2.2⟩ (HK.out.r (rwS (.slice (some ⟨ga, 0, none⟩) p.gr.length gc) p.gr.length p.gr) (by simp)) rfl).mono ?_
          rintro e w10 ⟨tv2, T2, bd, cd, rfl, hT2, ho, hdk, hc2, hgr⟩
          have HKa := Lib.hid (HK.out.drawR hgr hdk (r := rwI tv2 T2.length T2) ho)
          have HT2 : Hid (TruB p T2 bd ∧ cd ≤ c + p.gr.length + 1 ∧ T2.length = p.n) := Lib.hid ⟨hT2, hc2, hT2.len⟩
          have ht2 : T2.length ≤ 10 := by have := hT2.len; have := HLN.out; omega
          have ht1 : 0 < T2.length := by have := hT2.len; have := HLN.out; omega
          have ht3 : la < T2.length := by have := hT2.len; have := HL1.out; omega
          obtain ⟨tg, tk, rfl⟩ : ∃ g cap, tv2 = .slice (some ⟨g, 0, none⟩) T2.length cap := form_pos (r := rwI tv2 T2.length T2) ho ht1
          clear hgr hdk ho hT2 hc2 HK b0 b1 b2 b3 b4
          obtain ⟨c0, c1, c2⟩ := HKa.out.box3 (q := pb) (a := .int .i64 wd) (b := .slice (some ⟨gg, 0, none⟩) (1 + p.gr.length + 1) hc2) (e := .slice (some ⟨gs, 0, none⟩) (p.ats.length + 2) sc) (t := 34) (by simp)
          go_wp2_with fail
          refine (Rg.lclone_any (B := w10.heap.size) (hs := HS) (ss := SS) (Nat.le_refl _) (HKa.out.rsS (v := .slice (some ⟨gg, 0, none⟩) (1 + p.gr.length + 1) hc2) (n := 1 + p.gr.length + 1) (.inl (by simp)) HLS.out.1) (HKa.out.rsI (v := .slice (some ⟨gs, 0, none⟩) (p.ats.length + 2) sc) (n := p.ats.length + 2) (.inl (by simp)) HLS.out.2.1) HLS.out.2.2.2.1 HLS.out.2.2.2.2.1).mono ?_
          rintro e w11 ⟨ohv, osv, rfl, o1, o2, hb⟩
          have HKb : Hid (Mem w S d1 cd (rwI (.slice (some ⟨tg, 0, none⟩) T2.length tk) T2.length T2 :: [rwI (.slice (some ⟨gs, 0, none⟩) (p.ats.length + 2) sc) (p.ats.length + 2) SS, rwS (.slice (some ⟨gg, 0, none⟩) (1 + p.gr.length + 1) hc2) (1 + p.gr.length + 1) HS, rwI (.slice (some ⟨ha, 0, none⟩) p.ats.length hc) p.ats.length p.ats, rwS (.slice (some ⟨ga, 0, none⟩) p.gr.length gc) p.gr.length p.gr, rwI (.slice (some ⟨ta, 0, none⟩) T.length tc) T.length T]) [rwS ohv HS.length HS, rwI osv SS.length SS] [(qs, Obj.cells #[.int .i64 sx, .int .i64 sy] 28 (0, 0)), (pb, Obj.cells #[.int .i64 wd, .slice (some ⟨gg, 0, none⟩) (1 + p.gr.length + 1) hc2, .slice (some ⟨gs, 0, none⟩) (p.ats.length + 2) sc] 34 (0, 0)), (q, Obj.cells #[.slice (some ⟨ha, 0, none⟩) p.ats.length hc, .slice (some ⟨ga, 0, none⟩) p.gr.length gc, .int .i64 p.tall, .int .i64 p.lo, .int .i64 p.hi] 30 (0, 0))] w11) := Lib.hid (Mem.ins2 (r := rwS ohv HS.length HS) (s := rwI osv SS.length SS) (Q1 := []) HKa.out hb o1 o2 (by show 28 ≠ 3; decide))
          obtain ⟨og, ok, rfl⟩ : ∃ g cap, ohv = .slice (some ⟨g, 0, none⟩) HS.length cap := form_pos (r := rwS ohv HS.length HS) o1 (by show 0 < HS.length; have := HLS.out; omega)
          obtain ⟨zg, zk, rfl⟩ : ∃ g cap, osv = .slice (some ⟨g, 0, none⟩) SS.length cap := form_pos (r := rwI osv SS.length SS) o2 (by show 0 < SS.length; have := HLS.out; omega)
          clear hb o1 o2 HKa c0 c1 c2
          go_upto_region 14 with (fail)
          have HKc := Lib.hid (HKb.out.lay (.cells #[.int .i64 wd, .slice (some ⟨og, 0, none⟩) HS.length ok, .slice (some ⟨zg, 0, none⟩) SS.length zk] 34))
          obtain ⟨qo, hqe⟩ : ∃ q, q = w11.heap.size := ⟨_, rfl⟩
          simp only [← hqe] at HKc ⊢
          generalize w11.alloc (.cells #[.int .i64 wd, .slice (some ⟨og, 0, none⟩) HS.length ok, .slice (some ⟨zg, 0, none⟩) SS.length zk] 34) = w12 at HKc ⊢
          clear HKb hqe
          go_wp2_with fail
          go_loopw [19, 98] (fun hg i W => ∃ (j : Nat) (H : List (Int × Int)) (hi : Int), j ≤ T2.length ∧ i = .int .i64 j ∧ hg = .int .i64 hi ∧ Hid (Rg.OwnTo p T2 j H hi) ∧ Hid (Mem w S d1 cd (rwI (.slice (some ⟨tg, 0, none⟩) T2.length tk) T2.length T2 :: [rwI (.slice (some ⟨gs, 0, none⟩) (p.ats.length + 2) sc) (p.ats.length + 2) SS, rwS (.slice (some ⟨gg, 0, none⟩) (1 + p.gr.length + 1) hc2) (1 + p.gr.length + 1) HS, rwI (.slice (some ⟨ha, 0, none⟩) p.ats.length hc) p.ats.length p.ats, rwS (.slice (some ⟨ga, 0, none⟩) p.gr.length gc) p.gr.length p.gr, rwI (.slice (some ⟨ta, 0, none⟩) T.length tc) T.length T]) [rwS (.slice (some ⟨og, 0, none⟩) HS.length ok) HS.length H, rwI (.slice (some ⟨zg, 0, none⟩) SS.length zk) SS.length SS] [(qo, Obj.cells #[.int .i64 wd, .slice (some ⟨og, 0, none⟩) HS.length ok, .slice (some ⟨zg, 0, none⟩) SS.length zk] 34 (0, 0)), (qs, Obj.cells #[.int .i64 sx, .int .i64 sy] 28 (0, 0)), (pb, Obj.cells #[.int .i64 wd, .slice (some ⟨gg, 0, none⟩) (1 + p.gr.length + 1) hc2, .slice (some ⟨gs, 0, none⟩) (p.ats.length + 2) sc] 34 (0, 0)), (q, Obj.cells #[.slice (some ⟨ha, 0, none⟩) p.ats.length hc, .slice (some ⟨ga, 0, none⟩) p.gr.length gc, .int .i64 p.tall, .int .i64 p.lo, .int .i64 p.hi] 30 (0, 0))] W)) (fun _ i _ => T2.length - (intOf i).toNat)
          case atStart => exact ⟨0, HS, 0, Nat.zero_le _, rfl, rfl, Lib.hid (Rg.OwnTo.start HRP.out), HKc⟩
          case round =>
            as_aux_lemma =>
              clear HKc
              obtain ⟨j, H, hi, hj, rfl, rfl, HO, HK⟩ := hrel
              by_cases hlt2 : j < T2.length
              · have q0 := HK.out.cellI (g := tg) (n := T2.length) (cap := tk) (l := T2) (.inl (by simp)) hlt2
                obtain ⟨tt, htt⟩ : ∃ x, x = T2.getD j 0 := ⟨_, rfl⟩
                rw [← htt] at q0
                have HTT := Lib.hid htt
                obtain ⟨j1, hj1⟩ : ∃ j1 : Nat, j1 = j + 1 := ⟨_, rfl⟩
                have ew3 : IntKind.i64.wrap ((j : Int) + 1) = (j1 : Int) := by rw [hj1]; exact IntWalk.i64_in _ (by omega)
                have hj2 : j1 < HS.length := by have := HHL.out; have := HT2.out.2.2; omega
                have hj3 : (j1 : Int) < (HS.length : Int) := by omega
                have HJ1 := Lib.hid hj1
                clear htt hj1
                go_upto_region 18 with (fail)
                clear q0
                have hC : (fun W => W.cell? ⟨qo, 1, none⟩ = some (.slice (some ⟨og, 0, none⟩) HS.length ok)) wr.drew := (HK.out.drew.box3 (q := qo) (a := .int .i64 wd) (b := .slice (some ⟨og, 0, none⟩) HS.length ok) (e := .slice (some ⟨zg, 0, none⟩) SS.length zk) (t := 34) (by simp)).2.1
                have HKd := Lib.hid HK.out.drew
                clear HK
                generalize hW0 : wr.drew = wq at HKd hC
                refine Lim.regC' (fun W => W.cell? ⟨qo, 1, none⟩ = some (.slice (some ⟨og, 0, none⟩) HS.length ok)) [] #[false, false, false, false, false, false, false, false, false] (by kernel_rfl) rfl ?_
                rw [hW0]; clear hW0
                refine Lim.stepR 0 (fun _ => trivial) rfl (by kernel_rfl) (fun _ _ _ _ h => h) hC rfl ?_; apply Exists.intro; refine ⟨?_, ?_⟩
                · rintro w r0; go_simp; try with_reducible rfl
                simp only [Act.put, List.setIfInBounds_toArray, List.set_cons_succ, List.set_cons_zero]
                refine Lim.stepR 1 (fun _ => trivial) rfl (by kernel_rfl) (fun _ _ _ _ h => h) hC rfl ?_; apply Exists.intro; refine ⟨?_, ?_⟩
                · rintro w r0; go_simp; try with_reducible rfl
                simp only [Act.put, List.setIfInBounds_toArray, List.set_cons_succ, List.set_cons_zero]
                refine Lim.stepR 2 (fun _ => trivial) rfl (by kernel_rfl) (fun _ _ _ _ h => h) hC rfl ?_; apply Exists.intro; refine ⟨?_, ?_⟩
                · rintro w r0; go_simp; try with_reducible rfl
                simp only [Act.put, List.setIfInBounds_toArray, List.set_cons_succ, List.set_cons_zero]
                refine Lim.stepR 3 (fun _ => trivial) rfl (by kernel_rfl) (fun _ _ _ _ h => h) hC rfl ?_; apply Exists.intro; refine ⟨?_, ?_⟩
                · rintro w r0; go_simp; try with_reducible rfl
                simp only [Act.put, List.setIfInBounds_toArray, List.set_cons_succ, List.set_cons_zero]
                refine Lim.stepR 4 (fun _ => trivial) rfl (by kernel_rfl) (fun _ _ _ _ h => h) hC rfl ?_; apply Exists.intro; refine ⟨?_, ?_⟩
                · rintro w r0; go_simp; try with_reducible rfl
                simp only [Act.put, List.setIfInBounds_toArray, List.set_cons_succ, List.set_cons_zero]
                refine Lim.stepR 5 (fun _ => trivial) rfl (by kernel_rfl) (fun _ _ _ _ h => h) hC rfl ?_; apply Exists.intro; refine ⟨?_, ?_⟩
                · rintro w r0; go_simp; try with_reducible rfl
                simp only [Act.put, List.setIfInBounds_toArray, List.set_cons_succ, List.set_cons_zero]
                refine Lim.stepE 6 (fun _ => trivial) rfl (by kernel_rfl) rfl (fun K hK => ?_)   -- E call
                go_simp
                refine ⟨rfl, (callsIn_wide.2 (span_any tt tt _)).mono ?_⟩
                rintro e w' ⟨rfl, hb⟩
                have HKe := Lib.hid (HKd.out.grow hb)
                have hC2 : (fun W => W.cell? ⟨qo, 1, none⟩ = some (.slice (some ⟨og, 0, none⟩) HS.length ok)) w' := (HKe.out.box3 (q := qo) (a := .int .i64 wd) (b := .slice (some ⟨og, 0, none⟩) HS.length ok) (e := .slice (some ⟨zg, 0, none⟩) SS.length zk) (t := 34) (by simp)).2.1
                refine hK _ _ hC2 ?_
                clear hK HKd hb
                simp only [Act.put, List.setIfInBounds_toArray, List.set_cons_succ, List.set_cons_zero]
                refine Lim.stepR 7 (fun _ => trivial) rfl (by kernel_rfl) (fun _ _ _ _ h => h) hC2 rfl ?_; apply Exists.intro; refine ⟨?_, ?_⟩
                · rintro w r0; go_simp; try with_reducible rfl
                simp only [Act.put, List.setIfInBounds_toArray, List.set_cons_succ, List.set_cons_zero]
                refine Lim.stepE 8 (fun _ => trivial) rfl (by kernel_rfl) rfl (fun K hK => ?_)   -- E store
                obtain ⟨z0, z1⟩ := HKe.out.cellS (g := og) (n := HS.length) (cap := ok) (l := H) (.inr (by simp)) (j := j1) (by have h1 := HO.out.hl; have h2 := HHL.out; omega)
                have y0 : w'.frozen? ⟨og, j1 * 2, none⟩ = false := row_frz (HKe.out.q (rwS (.slice (some ⟨og, 0, none⟩) HS.length ok) HS.length H) (by simp)) rfl _
                have y1 : w'.frozen? ⟨og, j1 * 2 + 1, none⟩ = false := row_frz (HKe.out.q (rwS (.slice (some ⟨og, 0, none⟩) HS.length ok) HS.length H) (by simp)) rfl _
                go_simp
                have HKf := Lib.hid (Mem.setS (l := H) (Q1 := []) HKe.out j1 tt tt)
                have hC3 : (fun W => W.cell? ⟨qo, 1, none⟩ = some (.slice (some ⟨og, 0, none⟩) HS.length ok)) ((w'.setCell ⟨og, j1 * 2, none⟩ (.int .i64 tt)).setCell ⟨og, j1 * 2 + 1, none⟩ (.int .i64 tt)) := (HKf.out.box3 (q := qo) (a := .int .i64 wd) (b := .slice (some ⟨og, 0, none⟩) HS.length ok) (e := .slice (some ⟨zg, 0, none⟩) SS.length zk) (t := 34) (by simp)).2.1
                refine hK _ _ hC3 ?_
                clear z0 z1 y0 y1 hK HKe
                generalize (w'.setCell ⟨og, j1 * 2, none⟩ (.int .i64 tt)).setCell ⟨og, j1 * 2 + 1, none⟩ (.int .i64 tt) = w9 at HKf hC3 ⊢
                simp only [Act.put, List.setIfInBounds_toArray, List.set_cons_succ, List.set_cons_zero]
                refine Lim.stepD (by kernel_rfl) ?_
                clear hC hC2 hC3
                go_wp2
                go_roundw
                case rel => exact ⟨j1, H.set j1 (tt, tt), max hi tt, by have := HJ1.out; omega, rfl, rfl, Lib.hid (by rw [HJ1.out]; exact HO.out.step (by have := HT2.out.2.2; omega) HTT.out (by rw [HTT.out]; have h1 := HT2.out.1.h j (by have := HT2.out.2.2; omega); have h2 := HOK.out.gr j (by have := HT2.out.2.2; omega); omega)), HKf⟩
                case measure => have := HJ1.out; simp [intOf]; omega
              · have hje : j = T2.length := by omega
                have HO2 : Hid (Rg.OwnTo p T2 p.n H hi) := Lib.hid (by have h := HO.out; rw [show j = p.n by have := HT2.out.2.2; omega] at h; exact h)
                have HSB := Lib.hid (HO2.out.between HOK.out HT2.out.1 HRP.out HLS.out.2.2.2.2.2 HLS.out.2.2.1 HSAD.out).2
                have HHH : Hid (H.length = HS.length) := Lib.hid (by have h1 := HO2.out.hl; have h2 := HHL.out; omega)
                clear HO hje
                obtain ⟨c0, c1, c2⟩ := HK.out.box3 (q := qo) (a := .int .i64 wd) (b := .slice (some ⟨og, 0, none⟩) HS.length ok) (e := .slice (some ⟨zg, 0, none⟩) SS.length zk) (t := 34) (by simp)
                go_wp2_with fail
                refine (Rg.Saddle_any (B := wr.heap.size) (hs := H) (ss := SS) (Nat.le_refl _) (HK.out.rsS (v := .slice (some ⟨og, 0, none⟩) HS.length ok) (n := HS.length) (.inr (by simp)) HHH.out) (HK.out.rsI (v := .slice (some ⟨zg, 0, none⟩) SS.length zk) (n := SS.length) (.inr (by simp)) rfl)).mono ?_
                rintro e w13 ⟨tx, ty, er2, rfl, hb, hs2⟩
                have HKd : Hid (Mem w S d1 cd (rwI (.slice (some ⟨tg, 0, none⟩) T2.length tk) T2.length T2 :: [rwI (.slice (some ⟨gs, 0, none⟩) (p.ats.length + 2) sc) (p.ats.length + 2) SS, rwS (.slice (some ⟨gg, 0, none⟩) (1 + p.gr.length + 1) hc2) (1 + p.gr.length + 1) HS, rwI (.slice (some ⟨ha, 0, none⟩) p.ats.length hc) p.ats.length p.ats, rwS (.slice (some ⟨ga, 0, none⟩) p.gr.length gc) p.gr.length p.gr, rwI (.slice (some ⟨ta, 0, none⟩) T.length tc) T.length T]) [] [(qs, Obj.cells #[.int .i64 sx, .int .i64 sy] 28 (0, 0)), (pb, Obj.cells #[.int .i64 wd, .slice (some ⟨gg, 0, none⟩) (1 + p.gr.length + 1) hc2, .slice (some ⟨gs, 0, none⟩) (p.ats.length + 2) sc] 34 (0, 0)), (q, Obj.cells #[.slice (some ⟨ha, 0, none⟩) p.ats.length hc, .slice (some ⟨ga, 0, none⟩) p.gr.length gc, .int .i64 p.tall, .int .i64 p.lo, .int .i64 p.hi] 30 (0, 0))] w13) := Lib.hid ((HK.out.grow hb).less (fun _ h => h) (List.nil_sublist _) (List.sublist_cons_self _ _))
                obtain ⟨g1, g2, g3⟩ := HO2.out.done HOK.out HT2.out.1 HRP.out HLS.out.2.2.2.2.2 HLS.out.2.2.1 hs2
                rw [g1, g2, g3]
                clear g1 g2 g3 hs2 hb HK c0 c1 c2
                go_upto_region 22 with (fail)
                have HKe := Lib.hid (HKd.out.lay (.cells #[.int .i64 hi, .int .i64 hi] 28))
                obtain ⟨qt, hqe⟩ : ∃ q, q = w13.heap.size := ⟨_, rfl⟩
                simp only [← hqe] at HKe ⊢
                generalize w13.alloc (.cells #[.int .i64 hi, .int .i64 hi] 28) = w14 at HKe ⊢
                clear HKd hqe
                obtain ⟨b0, b1, b2, b3, b4⟩ := HKe.out.box5 (q := q) (a := .slice (some ⟨ha, 0, none⟩) p.ats.length hc) (b := .slice (some ⟨ga, 0, none⟩) p.gr.length gc) (e := .int .i64 p.tall) (f := .int .i64 p.lo) (g := .int .i64 p.hi) (t := 30) (by simp)
                go_wp2_with fail
                refine (Real_any (B := w14.heap.size) (Nat.le_refl _) (HKe.out.rsI (v := .slice (some ⟨ha, 0, none⟩) p.ats.length hc) (by simp) rfl) (HKe.out.rsS (v := .slice (some ⟨ga, 0, none⟩) p.gr.length gc) (by simp) rfl) (HKe.out.rsI (v := .slice (some ⟨tg, 0, none⟩) T2.length tk) (l := T2) (.inl (by simp)) rfl) (by have := HT2.out.2.2; have := HLN.out; omega)).mono ?_
                rintro e w15 ⟨rfl, hb⟩
                have HKf := Lib.hid (HKe.out.grow hb)
                rw [show realAns p T2 bd 0 (la : Int) = _ from real_ok (i := 0) (j := la) HOK.out HT2.out.1 (by have := HOK.out.n2; omega) HL1.out.2.2.1 (by have := HL1.out; omega)]
                obtain ⟨z, hz⟩ : ∃ z, z = (p.own T2 bd).sure 0 la := ⟨_, rfl⟩
                have HZ : Hid ((sr = true → z = true) ∧ (z = true → hi ≤ max (T2.getD 0 0) (T2.getD la 0) + p.tall ∧ ∀ k, 0 < k → k < la → T2.getD k 0 < max (T2.getD 0 0) (T2.getD la 0) + p.tall)) := Lib.hid (by
                  have e : p.n - 1 = la := by have := HL1.out; have : p.n = p.ats.length := rfl; omega
                  rw [hz, HSR.out]
                  refine ⟨(real_le HOK.out HT2.out.1 (by have := HOK.out.n2; omega) HL1.out.2.2.1).1, fun h => ?_⟩
                  rw [← e] at h ⊢
                  exact ⟨Rg.sees_high HOK.out HT2.out.1 h HO2.out, fun k h1 h2 => Rg.sees_over HOK.out HT2.out.1 h h1 h2⟩)
                rw [← hz]
                clear hz hb HKe b0 b1 b2 b3 b4
                have hd1 : decide (hi < sx) = false := decide_eq_false (by have := HSB.out; omega)
                have hd2 : decide (sy < hi) = false := decide_eq_false (by have := HSB.out; omega)
                go_upto_region 23 with (fail)
                go_cut [159] from 128 to 158 (fun s159 wx => s159 = .bool false ∧ Hid (Mem w S d1 cd (rwI (.slice (some ⟨tg, 0, none⟩) T2.length tk) T2.length T2 :: [rwI (.slice (some ⟨gs, 0, none⟩) (p.ats.length + 2) sc) (p.ats.length + 2) SS, rwS (.slice (some ⟨gg, 0, none⟩) (1 + p.gr.length + 1) hc2) (1 + p.gr.length + 1) HS, rwI (.slice (some ⟨ha, 0, none⟩) p.ats.length hc) p.ats.length p.ats, rwS (.slice (some ⟨ga, 0, none⟩) p.gr.length gc) p.gr.length p.gr, rwI (.slice (some ⟨ta, 0, none⟩) T.length tc) T.length T]) [] [(qt, Obj.cells #[.int .i64 hi, .int .i64 hi] 28 (0, 0)), (qs, Obj.cells #[.int .i64 sx, .int .i64 sy] 28 (0, 0)), (pb, Obj.cells #[.int .i64 wd, .slice (some ⟨gg, 0, none⟩) (1 + p.gr.length + 1) hc2, .slice (some ⟨gs, 0, none⟩) (p.ats.length + 2) sc] 34 (0, 0)), (q, Obj.cells #[.slice (some ⟨ha, 0, none⟩) p.ats.length hc, .slice (some ⟨ga, 0, none⟩) p.gr.length gc, .int .i64 p.tall, .int .i64 p.lo, .int .i64 p.hi] 30 (0, 0))] wx))
                case first =>
                  as_aux_lemma =>
                    cases sr with
                    | true =>
                      obtain rfl : z = true := HZ.out.1 rfl
                      have hC : (fun W => (W.cell? ⟨qt, 0, none⟩ = some (.int .i64 hi) ∧ W.cell? ⟨qt, 1, none⟩ = some (.int .i64 hi)) ∧ W.cell? ⟨qs, 0, none⟩ = some (.int .i64 sx) ∧ W.cell? ⟨qs, 1, none⟩ = some (.int .i64 sy)) w15.drew := ⟨HKf.out.drew.box2 (q := qt) (a := .int .i64 hi) (b := .int .i64 hi) (t := 28) (by simp), HKf.out.drew.box2 (q := qs) (a := .int .i64 sx) (b := .int .i64 sy) (t := 28) (by simp)⟩
                      have HKg := Lib.hid HKf.out.drew
                      clear HKf
                      generalize hW0 : w15.drew = wq at HKg hC
                      refine Lim.regC' (fun W => (W.cell? ⟨qt, 0, none⟩ = some (.int .i64 hi) ∧ W.cell? ⟨qt, 1, none⟩ = some (.int .i64 hi)) ∧ W.cell? ⟨qs, 0, none⟩ = some (.int .i64 sx) ∧ W.cell? ⟨qs, 1, none⟩ = some (.int .i64 sy)) [] #[false, false, false, false, false, false, false, false, false, false, false, false, false, false, false, false, false, false, false, false, false, false, false, false, false, false, false, false, false, false, false, false] (by kernel_rfl) rfl ?_
                      rw [hW0]; clear hW0
                      refine Lim.stepR 0 (fun _ => trivial) rfl (by kernel_rfl) (fun _ _ _ _ h => h) hC rfl ?_; apply Exists.intro; refine ⟨?_, ?_⟩
                      · rintro w ⟨⟨r0, r1⟩, r2, r3⟩; go_simp; try with_reducible rfl
                      simp only [Act.put, List.setIfInBounds_toArray, List.set_cons_succ, List.set_cons_zero]
                      refine Lim.stepR 1 (fun _ => trivial) rfl (by kernel_rfl) (fun _ _ _ _ h => h) hC rfl ?_; apply Exists.intro; refine ⟨?_, ?_⟩
                      · rintro w ⟨⟨r0, r1⟩, r2, r3⟩; go_simp; try with_reducible rfl
                      simp only [Act.put, List.setIfInBounds_toArray, List.set_cons_succ, List.set_cons_zero]
                      refine Lim.stepR 2 (fun _ => trivial) rfl (by kernel_rfl) (fun _ _ _ _ h => h) hC rfl ?_; apply Exists.intro; refine ⟨?_, ?_⟩
                      · rintro w ⟨⟨r0, r1⟩, r2, r3⟩; go_simp; try with_reducible rfl
                      simp only [Act.put, List.setIfInBounds_toArray, List.set_cons_succ, List.set_cons_zero]
                      refine Lim.stepR 3 (fun _ => trivial) rfl (by kernel_rfl) (fun _ _ _ _ h => h) hC rfl ?_; apply Exists.intro; refine ⟨?_, ?_⟩
                      · rintro w ⟨⟨r0, r1⟩, r2, r3⟩; go_simp; try with_reducible rfl
                      simp only [Act.put, List.setIfInBounds_toArray, List.set_cons_succ, List.set_cons_zero]
                      refine Lim.stepR 4 (fun _ => trivial) rfl (by kernel_rfl) (fun _ _ _ _ h => h) hC rfl ?_; apply Exists.intro; refine ⟨?_, ?_⟩
                      · rintro w ⟨⟨r0, r1⟩, r2, r3⟩; go_simp; try with_reducible rfl
                      simp only [Act.put, List.setIfInBounds_toArray, List.set_cons_succ, List.set_cons_zero]
                      refine Lim.stepR 5 (fun _ => trivial) rfl (by kernel_rfl) (fun _ _ _ _ h => h) hC rfl ?_; apply Exists.intro; refine ⟨?_, ?_⟩
                      · rintro w ⟨⟨r0, r1⟩, r2, r3⟩; go_simp; try with_reducible rfl
                      simp only [Act.put, List.setIfInBounds_toArray, List.set_cons_succ, List.set_cons_zero]
                      refine Lim.stepR 6 (fun _ => trivial) rfl (by kernel_rfl) (fun _ _ _ _ h => h) hC rfl ?_; apply Exists.intro; refine ⟨?_, ?_⟩
                      · rintro w ⟨⟨r0, r1⟩, r2, r3⟩; go_simp; try with_reducible rfl
                      simp only [Act.put, List.setIfInBounds_toArray, List.set_cons_succ, List.set_cons_zero]
                      refine Lim.stepR 7 (fun _ => trivial) rfl (by kernel_rfl) (fun _ _ _ _ h => h) hC rfl ?_; apply Exists.intro; refine ⟨?_, ?_⟩
                      · rintro w ⟨⟨r0, r1⟩, r2, r3⟩; go_simp; try with_reducible rfl
                      simp only [Act.put, List.setIfInBounds_toArray, List.set_cons_succ, List.set_cons_zero]
                      refine Lim.stepR 8 (fun _ => trivial) rfl (by kernel_rfl) (fun _ _ _ _ h => h) hC rfl ?_; apply Exists.intro; refine ⟨?_, ?_⟩
                      · rintro w ⟨⟨r0, r1⟩, r2, r3⟩; go_simp; try with_reducible rfl
                      simp only [Act.put, List.setIfInBounds_toArray, List.set_cons_succ, List.set_cons_zero]
                      refine Lim.stepR 9 (fun _ => trivial) rfl (by kernel_rfl) (fun _ _ _ _ h => h) hC rfl ?_; apply Exists.intro; refine ⟨?_, ?_⟩
                      · rintro w ⟨⟨r0, r1⟩, r2, r3⟩; go_simp; try with_reducible rfl
                      simp only [Act.put, List.setIfInBounds_toArray, List.set_cons_succ, List.set_cons_zero]
                      refine Lim.stepE 10 (fun _ => trivial) rfl (by kernel_rfl) rfl (fun K hK => ?_)   -- E call
                      go_simp
                      refine ⟨rfl, (callsIn_wide.2 (span_any hi hi _)).mono ?_⟩
                      rintro e w' ⟨rfl, hb⟩
                      have HKh := Lib.hid (HKg.out.grow hb)
                      have hC2 : (fun W => (W.cell? ⟨qt, 0, none⟩ = some (.int .i64 hi) ∧ W.cell? ⟨qt, 1, none⟩ = some (.int .i64 hi)) ∧ W.cell? ⟨qs, 0, none⟩ = some (.int .i64 sx) ∧ W.cell? ⟨qs, 1, none⟩ = some (.int .i64 sy)) w' := ⟨HKh.out.box2 (q := qt) (a := .int .i64 hi) (b := .int .i64 hi) (t := 28) (by simp), HKh.out.box2 (q := qs) (a := .int .i64 sx) (b := .int .i64 sy) (t := 28) (by simp)⟩
                      refine hK _ _ hC2 ?_
                      clear hK HKg hb
                      simp only [Act.put, List.setIfInBounds_toArray, List.set_cons_succ, List.set_cons_zero]
                      refine Lim.stepR 11 (fun _ => trivial) rfl (by kernel_rfl) (fun _ _ _ _ h => h) hC2 rfl ?_; apply Exists.intro; refine ⟨?_, ?_⟩
                      · rintro w ⟨⟨r0, r1⟩, r2, r3⟩; go_simp; try with_reducible rfl
                      simp only [Act.put, List.setIfInBounds_toArray, List.set_cons_succ, List.set_cons_zero]
                      refine Lim.stepR 12 (fun _ => trivial) rfl (by kernel_rfl) (fun _ _ _ _ h => h) hC2 rfl ?_; apply Exists.intro; refine ⟨?_, ?_⟩
                      · rintro w ⟨⟨r0, r1⟩, r2, r3⟩; go_simp; try with_reducible rfl
                      simp only [Act.put, List.setIfInBounds_toArray, List.set_cons_succ, List.set_cons_zero]
                      refine Lim.stepR 13 (fun _ => trivial) rfl (by kernel_rfl) (fun _ _ _ _ h => h) hC2 rfl ?_; apply Exists.intro; refine ⟨?_, ?_⟩
                      · rintro w ⟨⟨r0, r1⟩, r2, r3⟩; go_simp; try with_reducible rfl
                      simp only [Act.put, List.setIfInBounds_toArray, List.set_cons_succ, List.set_cons_zero]
                      refine Lim.stepR 14 (fun _ => trivial) rfl (by kernel_rfl) (fun _ _ _ _ h => h) hC2 rfl ?_; apply Exists.intro; refine ⟨?_, ?_⟩
                      · rintro w ⟨⟨r0, r1⟩, r2, r3⟩; go_simp; try with_reducible rfl
                      simp only [Act.put, List.setIfInBounds_toArray, List.set_cons_succ, List.set_cons_zero]
                      refine Lim.stepR 15 (fun _ => trivial) rfl (by kernel_rfl) (fun _ _ _ _ h => h) hC2 rfl ?_; apply Exists.intro; refine ⟨?_, ?_⟩
                      · rintro w ⟨⟨r0, r1⟩, r2, r3⟩; go_simp; try with_reducible rfl
                      simp only [Act.put, List.setIfInBounds_toArray, List.set_cons_succ, List.set_cons_zero]
                      refine Lim.stepR 16 (fun _ => trivial) rfl (by kernel_rfl) (fun _ _ _ _ h => h) hC2 rfl ?_; apply Exists.intro; refine ⟨?_, ?_⟩
                      · rintro w ⟨⟨r0, r1⟩, r2, r3⟩; go_simp; try with_reducible rfl
                      simp only [Act.put, List.setIfInBounds_toArray, List.set_cons_succ, List.set_cons_zero]
                      refine Lim.stepR 17 (fun _ => trivial) rfl (by kernel_rfl) (fun _ _ _ _ h => h) hC2 rfl ?_; apply Exists.intro; refine ⟨?_, ?_⟩
                      · rintro w ⟨⟨r0, r1⟩, r2, r3⟩; go_simp; try with_reducible rfl
                      simp only [Act.put, List.setIfInBounds_toArray, List.set_cons_succ, List.set_cons_zero]
                      refine Lim.stepR 18 (fun _ => trivial) rfl (by kernel_rfl) (fun _ _ _ _ h => h) hC2 rfl ?_; apply Exists.intro; refine ⟨?_, ?_⟩
                      · rintro w ⟨⟨r0, r1⟩, r2, r3⟩; go_simp; try with_reducible rfl
                      simp only [Act.put, List.setIfInBounds_toArray, List.set_cons_succ, List.set_cons_zero]
                      refine Lim.stepR 19 (fun _ => trivial) rfl (by kernel_rfl) (fun _ _ _ _ h => h) hC2 rfl ?_; apply Exists.intro; refine ⟨?_, ?_⟩
                      · rintro w ⟨⟨r0, r1⟩, r2, r3⟩; go_simp; try with_reducible rfl
                      simp only [Act.put, List.setIfInBounds_toArray, List.set_cons_succ, List.set_cons_zero]
                      refine Lim.stepR 20 (fun _ => trivial) rfl (by kernel_rfl) (fun _ _ _ _ h => h) hC2 rfl ?_; apply Exists.intro; refine ⟨?_, ?_⟩
                      · rintro w ⟨⟨r0, r1⟩, r2, r3⟩; go_simp; try with_reducible rfl
                      simp only [Act.put, List.setIfInBounds_toArray, List.set_cons_succ, List.set_cons_zero]
                      refine Lim.stepR 21 (fun _ => trivial) rfl (by kernel_rfl) (fun _ _ _ _ h => h) hC2 rfl ?_; apply Exists.intro; refine ⟨?_, ?_⟩
                      · rintro w ⟨⟨r0, r1⟩, r2, r3⟩; go_simp; try with_reducible rfl
                      simp only [Act.put, List.setIfInBounds_toArray, List.set_cons_succ, List.set_cons_zero]
                      refine Lim.stepR 22 (fun _ => trivial) rfl (by kernel_rfl) (fun _ _ _ _ h => h) hC2 rfl ?_; apply Exists.intro; refine ⟨?_, ?_⟩
                      · rintro w ⟨⟨r0, r1⟩, r2, r3⟩; go_simp; try with_reducible rfl
                      simp only [Act.put, List.setIfInBounds_toArray, List.set_cons_succ, List.set_cons_zero]
                      refine Lim.stepR 23 (fun _ => trivial) rfl (by kernel_rfl) (fun _ _ _ _ h => h) hC2 rfl ?_; apply Exists.intro; refine ⟨?_, ?_⟩
                      · rintro w ⟨⟨r0, r1⟩, r2, r3⟩; go_simp; try with_reducible rfl
                      simp only [Act.put, List.setIfInBounds_toArray, List.set_cons_succ, List.set_cons_zero]
                      refine Lim.stepR 24 (fun _ => trivial) rfl (by kernel_rfl) (fun _ _ _ _ h => h) hC2 rfl ?_; apply Exists.intro; refine ⟨?_, ?_⟩
                      · rintro w ⟨⟨r0, r1⟩, r2, r3⟩; go_simp; try with_reducible rfl
                      simp only [Act.put, List.setIfInBounds_toArray, List.set_cons_succ, List.set_cons_zero]
                      refine Lim.stepR 25 (fun _ => trivial) rfl (by kernel_rfl) (fun _ _ _ _ h => h) hC2 rfl ?_; apply Exists.intro; refine ⟨?_, ?_⟩
                      · rintro w ⟨⟨r0, r1⟩, r2, r3⟩; go_simp; try with_reducible rfl
                      simp only [Act.put, List.setIfInBounds_toArray, List.set_cons_succ, List.set_cons_zero]
                      refine Lim.stepR 26 (fun _ => trivial) rfl (by kernel_rfl) (fun _ _ _ _ h => h) hC2 rfl ?_; apply Exists.intro; refine ⟨?_, ?_⟩
                      · rintro w ⟨⟨r0, r1⟩, r2, r3⟩; go_simp; try with_reducible rfl
                      simp only [Act.put, List.setIfInBounds_toArray, List.set_cons_succ, List.set_cons_zero]
                      refine Lim.stepR 27 (fun _ => trivial) rfl (by kernel_rfl) (fun _ _ _ _ h => h) hC2 rfl ?_; apply Exists.intro; refine ⟨?_, ?_⟩
                      · rintro w ⟨⟨r0, r1⟩, r2, r3⟩; go_simp; try with_reducible rfl
                      simp only [Act.put, List.setIfInBounds_toArray, List.set_cons_succ, List.set_cons_zero]
                      refine Lim.stepR 28 (fun _ => trivial) rfl (by kernel_rfl) (fun _ _ _ _ h => h) hC2 rfl ?_; apply Exists.intro; refine ⟨?_, ?_⟩
                      · rintro w ⟨⟨r0, r1⟩, r2, r3⟩; go_simp; try with_reducible rfl
                      simp only [Act.put, List.setIfInBounds_toArray, List.set_cons_succ, List.set_cons_zero]
                      refine Lim.stepR 29 (fun _ => trivial) rfl (by kernel_rfl) (fun _ _ _ _ h => h) hC2 rfl ?_; apply Exists.intro; refine ⟨?_, ?_⟩
                      · rintro w ⟨⟨r0, r1⟩, r2, r3⟩; go_simp; try with_reducible rfl
                      simp only [Act.put, List.setIfInBounds_toArray, List.set_cons_succ, List.set_cons_zero]
                      refine Lim.stepR 30 (fun _ => trivial) rfl (by kernel_rfl) (fun _ _ _ _ h => h) hC2 rfl ?_; apply Exists.intro; refine ⟨?_, ?_⟩
                      · rintro w ⟨⟨r0, r1⟩, r2, r3⟩; go_simp; try with_reducible rfl
                      simp only [Act.put, List.setIfInBounds_toArray, List.set_cons_succ, List.set_cons_zero]
                      refine Lim.stepR 31 (fun _ => trivial) rfl (by kernel_rfl) (fun _ _ _ _ h => h) hC2 rfl ?_; apply Exists.intro; refine ⟨?_, ?_⟩
                      · rintro w ⟨⟨r0, r1⟩, r2, r3⟩; go_simp; try with_reducible rfl
                      simp only [Act.put, List.setIfInBounds_toArray, List.set_cons_succ, List.set_cons_zero]
                      refine Lim.stepD (by kernel_rfl) ?_
                      clear hC hC2
                      go_wp2
                      go_meet
                      case rel => exact ⟨rfl, HKh⟩
                    | false =>
                      have hC : (fun W => (W.cell? ⟨qt, 0, none⟩ = some (.int .i64 hi) ∧ W.cell? ⟨qt, 1, none⟩ = some (.int .i64 hi)) ∧ W.cell? ⟨qs, 0, none⟩ = some (.int .i64 sx) ∧ W.cell? ⟨qs, 1, none⟩ = some (.int .i64 sy)) w15.drew := ⟨HKf.out.drew.box2 (q := qt) (a := .int .i64 hi) (b := .int .i64 hi) (t := 28) (by simp), HKf.out.drew.box2 (q := qs) (a := .int .i64 sx) (b := .int .i64 sy) (t := 28) (by simp)⟩
                      have HKg := Lib.hid HKf.out.drew
                      clear HKf
                      generalize hW0 : w15.drew = wq at HKg hC
                      refine Lim.regC' (fun W => (W.cell? ⟨qt, 0, none⟩ = some (.int .i64 hi) ∧ W.cell? ⟨qt, 1, none⟩ = some (.int .i64 hi)) ∧ W.cell? ⟨qs, 0, none⟩ = some (.int .i64 sx) ∧ W.cell? ⟨qs, 1, none⟩ = some (.int .i64 sy)) [] #[false, false, false, false, false, false, false, false, false, false, false, false, false, false, false, false, false, false, false, false, false, false, false, false, false, false, false, false, false, false, false, false] (by kernel_rfl) rfl ?_
                      rw [hW0]; clear hW0
                      refine Lim.stepR 0 (fun _ => trivial) rfl (by kernel_rfl) (fun _ _ _ _ h => h) hC rfl ?_; apply Exists.intro; refine ⟨?_, ?_⟩
                      · rintro w ⟨⟨r0, r1⟩, r2, r3⟩; go_simp; try with_reducible rfl
                      simp only [Act.put, List.setIfInBounds_toArray, List.set_cons_succ, List.set_cons_zero]
                      refine Lim.stepR 1 (fun _ => trivial) rfl (by kernel_rfl) (fun _ _ _ _ h => h) hC rfl ?_; apply Exists.intro; refine ⟨?_, ?_⟩
                      · rintro w ⟨⟨r0, r1⟩, r2, r3⟩; go_simp; try with_reducible rfl
                      simp only [Act.put, List.setIfInBounds_toArray, List.set_cons_succ, List.set_cons_zero]
                      refine Lim.stepR 2 (fun _ => trivial) rfl (by kernel_rfl) (fun _ _ _ _ h => h) hC rfl ?_; apply Exists.intro; refine ⟨?_, ?_⟩
                      · rintro w ⟨⟨r0, r1⟩, r2, r3⟩; go_simp; try with_reducible rfl
                      simp only [Act.put, List.setIfInBounds_toArray, List.set_cons_succ, List.set_cons_zero]
                      refine Lim.stepR 3 (fun _ => trivial) rfl (by kernel_rfl) (fun _ _ _ _ h => h) hC rfl ?_; apply Exists.intro; refine ⟨?_, ?_⟩
                      · rintro w ⟨⟨r0, r1⟩, r2, r3⟩; go_simp; try with_reducible rfl
                      simp only [Act.put, List.setIfInBounds_toArray, List.set_cons_succ, List.set_cons_zero]
                      refine Lim.stepR 4 (fun _ => trivial) rfl (by kernel_rfl) (fun _ _ _ _ h => h) hC rfl ?_; apply Exists.intro; refine ⟨?_, ?_⟩
                      · rintro w ⟨⟨r0, r1⟩, r2, r3⟩; go_simp; try with_reducible rfl
                      simp only [Act.put, List.setIfInBounds_toArray, List.set_cons_succ, List.set_cons_zero]
                      refine Lim.stepR 5 (fun _ => trivial) rfl (by kernel_rfl) (fun _ _ _ _ h => h) hC rfl ?_; apply Exists.intro; refine ⟨?_, ?_⟩
                      · rintro w ⟨⟨r0, r1⟩, r2, r3⟩; go_simp; try with_reducible rfl
                      simp only [Act.put, List.setIfInBounds_toArray, List.set_cons_succ, List.set_cons_zero]
                      refine Lim.stepR 6 (fun _ => trivial) rfl (by kernel_rfl) (fun _ _ _ _ h => h) hC rfl ?_; apply Exists.intro; refine ⟨?_, ?_⟩
                      · rintro w ⟨⟨r0, r1⟩, r2, r3⟩; go_simp; try with_reducible rfl
                      simp only [Act.put, List.setIfInBounds_toArray, List.set_cons_succ, List.set_cons_zero]
                      refine Lim.stepR 7 (fun _ => trivial) rfl (by kernel_rfl) (fun _ _ _ _ h => h) hC rfl ?_; apply Exists.intro; refine ⟨?_, ?_⟩
                      · rintro w ⟨⟨r0, r1⟩, r2, r3⟩; go_simp; try with_reducible rfl
                      simp only [Act.put, List.setIfInBounds_toArray, List.set_cons_succ, List.set_cons_zero]
                      refine Lim.stepR 8 (fun _ => trivial) rfl (by kernel_rfl) (fun _ _ _ _ h => h) hC rfl ?_; apply Exists.intro; refine ⟨?_, ?_⟩
                      · rintro w ⟨⟨r0, r1⟩, r2, r3⟩; go_simp; try with_reducible rfl
                      simp only [Act.put, List.setIfInBounds_toArray, List.set_cons_succ, List.set_cons_zero]
                      refine Lim.stepR 9 (fun _ => trivial) rfl (by kernel_rfl) (fun _ _ _ _ h => h) hC rfl ?_; apply Exists.intro; refine ⟨?_, ?_⟩
                      · rintro w ⟨⟨r0, r1⟩, r2, r3⟩; go_simp; try with_reducible rfl
                      simp only [Act.put, List.setIfInBounds_toArray, List.set_cons_succ, List.set_cons_zero]
                      refine Lim.stepE 10 (fun _ => trivial) rfl (by kernel_rfl) rfl (fun K hK => ?_)   -- E call
                      go_simp
                      refine ⟨rfl, (callsIn_wide.2 (span_any hi hi _)).mono ?_⟩
                      rintro e w' ⟨rfl, hb⟩
                      have HKh := Lib.hid (HKg.out.grow hb)
                      have hC2 : (fun W => (W.cell? ⟨qt, 0, none⟩ = some (.int .i64 hi) ∧ W.cell? ⟨qt, 1, none⟩ = some (.int .i64 hi)) ∧ W.cell? ⟨qs, 0, none⟩ = some (.int .i64 sx) ∧ W.cell? ⟨qs, 1, none⟩ = some (.int .i64 sy)) w' := ⟨HKh.out.box2 (q := qt) (a := .int .i64 hi) (b := .int .i64 hi) (t := 28) (by simp), HKh.out.box2 (q := qs) (a := .int .i64 sx) (b := .int .i64 sy) (t := 28) (by simp)⟩
                      refine hK _ _ hC2 ?_
                      clear hK HKg hb
                      simp only [Act.put, List.setIfInBounds_toArray, List.set_cons_succ, List.set_cons_zero]
                      refine Lim.stepR 11 (fun _ => trivial) rfl (by kernel_rfl) (fun _ _ _ _ h => h) hC2 rfl ?_; apply Exists.intro; refine ⟨?_, ?_⟩
                      · rintro w ⟨⟨r0, r1⟩, r2, r3⟩; go_simp; try with_reducible rfl
                      simp only [Act.put, List.setIfInBounds_toArray, List.set_cons_succ, List.set_cons_zero]
                      refine Lim.stepR 12 (fun _ => trivial) rfl (by kernel_rfl) (fun _ _ _ _ h => h) hC2 rfl ?_; apply Exists.intro; refine ⟨?_, ?_⟩
                      · rintro w ⟨⟨r0, r1⟩, r2, r3⟩; go_simp; try with_reducible rfl
                      simp only [Act.put, List.setIfInBounds_toArray, List.set_cons_succ, List.set_cons_zero]
                      refine Lim.stepR 13 (fun _ => trivial) rfl (by kernel_rfl) (fun _ _ _ _ h => h) hC2 rfl ?_; apply Exists.intro; refine ⟨?_, ?_⟩
                      · rintro w ⟨⟨r0, r1⟩, r2, r3⟩; go_simp; try with_reducible rfl
                      simp only [Act.put, List.setIfInBounds_toArray, List.set_cons_succ, List.set_cons_zero]
                      refine Lim.stepR 14 (fun _ => trivial) rfl (by kernel_rfl) (fun _ _ _ _ h => h) hC2 rfl ?_; apply Exists.intro; refine ⟨?_, ?_⟩
                      · rintro w ⟨⟨r0, r1⟩, r2, r3⟩; go_simp; try with_reducible rfl
                      simp only [Act.put, List.setIfInBounds_toArray, List.set_cons_succ, List.set_cons_zero]
                      refine Lim.stepR 15 (fun _ => trivial) rfl (by kernel_rfl) (fun _ _ _ _ h => h) hC2 rfl ?_; apply Exists.intro; refine ⟨?_, ?_⟩
                      · rintro w ⟨⟨r0, r1⟩, r2, r3⟩; go_simp; try with_reducible rfl
                      simp only [Act.put, List.setIfInBounds_toArray, List.set_cons_succ, List.set_cons_zero]
                      refine Lim.stepR 16 (fun _ => trivial) rfl (by kernel_rfl) (fun _ _ _ _ h => h) hC2 rfl ?_; apply Exists.intro; refine ⟨?_, ?_⟩
                      · rintro w ⟨⟨r0, r1⟩, r2, r3⟩; go_simp; try with_reducible rfl
                      simp only [Act.put, List.setIfInBounds_toArray, List.set_cons_succ, List.set_cons_zero]
                      refine Lim.stepR 17 (fun _ => trivial) rfl (by kernel_rfl) (fun _ _ _ _ h => h) hC2 rfl ?_; apply Exists.intro; refine ⟨?_, ?_⟩
                      · rintro w ⟨⟨r0, r1⟩, r2, r3⟩; go_simp; try with_reducible rfl
                      simp only [Act.put, List.setIfInBounds_toArray, List.set_cons_succ, List.set_cons_zero]
                      refine Lim.stepR 18 (fun _ => trivial) rfl (by kernel_rfl) (fun _ _ _ _ h => h) hC2 rfl ?_; apply Exists.intro; refine ⟨?_, ?_⟩
                      · rintro w ⟨⟨r0, r1⟩, r2, r3⟩; go_simp; try with_reducible rfl
                      simp only [Act.put, List.setIfInBounds_toArray, List.set_cons_succ, List.set_cons_zero]
                      refine Lim.stepR 19 (fun _ => trivial) rfl (by kernel_rfl) (fun _ _ _ _ h => h) hC2 rfl ?_; apply Exists.intro; refine ⟨?_, ?_⟩
                      · rintro w ⟨⟨r0, r1⟩, r2, r3⟩; go_simp; try with_reducible rfl
                      simp only [Act.put, List.setIfInBounds_toArray, List.set_cons_succ, List.set_cons_zero]
                      refine Lim.stepR 20 (fun _ => trivial) rfl (by kernel_rfl) (fun _ _ _ _ h => h) hC2 rfl ?_; apply Exists.intro; refine ⟨?_, ?_⟩
                      · rintro w ⟨⟨r0, r1⟩, r2, r3⟩; go_simp; try with_reducible rfl
                      simp only [Act.put, List.setIfInBounds_toArray, List.set_cons_succ, List.set_cons_zero]
                      refine Lim.stepR 21 (fun _ => trivial) rfl (by kernel_rfl) (fun _ _ _ _ h => h) hC2 rfl ?_; apply Exists.intro; refine ⟨?_, ?_⟩
                      · rintro w ⟨⟨r0, r1⟩, r2, r3⟩; go_simp; try with_reducible rfl
                      simp only [Act.put, List.setIfInBounds_toArray, List.set_cons_succ, List.set_cons_zero]
                      refine Lim.stepR 22 (fun _ => trivial) rfl (by kernel_rfl) (fun _ _ _ _ h => h) hC2 rfl ?_; apply Exists.intro; refine ⟨?_, ?_⟩
                      · rintro w ⟨⟨r0, r1⟩, r2, r3⟩; go_simp; try with_reducible rfl
                      simp only [Act.put, List.setIfInBounds_toArray, List.set_cons_succ, List.set_cons_zero]
                      refine Lim.stepR 23 (fun _ => trivial) rfl (by kernel_rfl) (fun _ _ _ _ h => h) hC2 rfl ?_; apply Exists.intro; refine ⟨?_, ?_⟩
                      · rintro w ⟨⟨r0, r1⟩, r2, r3⟩; go_simp; try with_reducible rfl
                      simp only [Act.put, List.setIfInBounds_toArray, List.set_cons_succ, List.set_cons_zero]
                      refine Lim.stepR 24 (fun _ => trivial) rfl (by kernel_rfl) (fun _ _ _ _ h => h) hC2 rfl ?_; apply Exists.intro; refine ⟨?_, ?_⟩
                      · rintro w ⟨⟨r0, r1⟩, r2, r3⟩; go_simp; try with_reducible rfl
                      simp only [Act.put, List.setIfInBounds_toArray, List.set_cons_succ, List.set_cons_zero]
                      refine Lim.stepR 25 (fun _ => trivial) rfl (by kernel_rfl) (fun _ _ _ _ h => h) hC2 rfl ?_; apply Exists.intro; refine ⟨?_, ?_⟩
                      · rintro w ⟨⟨r0, r1⟩, r2, r3⟩; go_simp; try with_reducible rfl
                      simp only [Act.put, List.setIfInBounds_toArray, List.set_cons_succ, List.set_cons_zero]
                      refine Lim.stepR 26 (fun _ => trivial) rfl (by kernel_rfl) (fun _ _ _ _ h => h) hC2 rfl ?_; apply Exists.intro; refine ⟨?_, ?_⟩
                      · rintro w ⟨⟨r0, r1⟩, r2, r3⟩; go_simp; try with_reducible rfl
                      simp only [Act.put, List.setIfInBounds_toArray, List.set_cons_succ, List.set_cons_zero]
                      refine Lim.stepR 27 (fun _ => trivial) rfl (by kernel_rfl) (fun _ _ _ _ h => h) hC2 rfl ?_; apply Exists.intro; refine ⟨?_, ?_⟩
                      · rintro w ⟨⟨r0, r1⟩, r2, r3⟩; go_simp; try with_reducible rfl
                      simp only [Act.put, List.setIfInBounds_toArray, List.set_cons_succ, List.set_cons_zero]
                      refine Lim.stepS 28 (fun _ => trivial) rfl (by kernel_rfl) (fun _ _ _ _ h => h) hC2 rfl ?_
                      simp only [Act.put, List.setIfInBounds_toArray, List.set_cons_succ, List.set_cons_zero]
                      refine Lim.stepS 29 (fun _ => trivial) rfl (by kernel_rfl) (fun _ _ _ _ h => h) hC2 rfl ?_
                      simp only [Act.put, List.setIfInBounds_toArray, List.set_cons_succ, List.set_cons_zero]
                      refine Lim.stepR 30 (fun _ => trivial) rfl (by kernel_rfl) (fun _ _ _ _ h => h) hC2 rfl ?_; apply Exists.intro; refine ⟨?_, ?_⟩
                      · rintro w ⟨⟨r0, r1⟩, r2, r3⟩; go_simp; try with_reducible rfl
                      simp only [Act.put, List.setIfInBounds_toArray, List.set_cons_succ, List.set_cons_zero]
                      refine Lim.stepR 31 (fun _ => trivial) rfl (by kernel_rfl) (fun _ _ _ _ h => h) hC2 rfl ?_; apply Exists.intro; refine ⟨?_, ?_⟩
                      · rintro w ⟨⟨r0, r1⟩, r2, r3⟩; go_simp; try with_reducible rfl
                      simp only [Act.put, List.setIfInBounds_toArray, List.set_cons_succ, List.set_cons_zero]
                      refine Lim.stepD (by kernel_rfl) ?_
                      clear hC hC2
                      go_wp2
                      go_meet
                      case rel => exact ⟨rfl, HKh⟩
                case rest =>
                  as_aux_lemma =>
                    obtain ⟨rfl, HKh⟩ := hcut
                    clear HKf
                    have q0 := HKh.out.cellI (g := tg) (n := T2.length) (cap := tk) (l := T2) (.inl (by simp)) ht1
                    have q1 := HKh.out.cellI (g := tg) (n := T2.length) (cap := tk) (l := T2) (.inl (by simp)) ht3
                    obtain ⟨b0, b1, b2, b3, b4⟩ := HKh.out.box5 (q := q) (a := .slice (some ⟨ha, 0, none⟩) p.ats.length hc) (b := .slice (some ⟨ga, 0, none⟩) p.gr.length gc) (e := .int .i64 p.tall) (f := .int .i64 p.lo) (g := .int .i64 p.hi) (t := 30) (by simp)
                    obtain ⟨h0, hh0⟩ : ∃ x, x = T2.getD 0 0 := ⟨_, rfl⟩
                    obtain ⟨hl, hhl⟩ : ∃ x, x = T2.getD la 0 := ⟨_, rfl⟩
                    rw [← hh0] at q0
                    rw [← hhl] at q1
                    have HH0 : Hid (h0 = T2.getD 0 0 ∧ hl = T2.getD la 0 ∧ 0 ≤ h0 ∧ h0 ≤ 10000 ∧ 0 ≤ hl ∧ hl ≤ 10000) := Lib.hid (by
                      have a1 := HT2.out.1.h 0 (by have := HOK.out.n2; omega)
                      have a2 := HT2.out.1.h la HL1.out.2.2.1
                      have a3 := HOK.out.gr 0 (by have := HOK.out.n2; omega)
                      have a4 := HOK.out.gr la HL1.out.2.2.1
                      have a5 := HLS.out.2.2.2.2.2 0 (by have := HOK.out.n2; omega)
                      have a6 := HLS.out.2.2.2.2.2 la HL1.out.2.2.1
                      omega)
                    clear hh0 hhl hd1 hd2
                    obtain ⟨hd, hhd⟩ : ∃ hd, hd = max h0 hl + p.tall := ⟨_, rfl⟩
                    have ew4 : IntKind.i64.wrap (max h0 hl + p.tall) = hd := by rw [hhd]; have h1 := HH0.out; have h2 := HOK.out.tall; exact IntWalk.i64_in _ (by omega)
                    have HHD : Hid ((z = true → hi ≤ hd ∧ ∀ k, 0 < k → k < la → T2.getD k 0 < hd)) := Lib.hid (by rw [hhd, HH0.out.1, HH0.out.2.1]; exact HZ.out.2)
                    have HCN : Hid (cd ≤ 50 * (k + 1)) := Lib.hid (by have h1 := HT2.out.2.1; have h2 := HC.out; have h3 := HLN.out; omega)
                    clear hhd
                    go_upto_region 25 with (fail)
                    go_quiet (fail)
                    have HKi := Lib.hid (HKh.out.drewN nq)
                    generalize wc.drewN nq = w16 at HKi ⊢
                    clear HKh q0 q1 b0 b1 b2 b3 b4 ew4 HSB
                    cases z with
                    | false =>
                      go_wp2_with fail
                      go_roundw
                      case rel => exact ⟨k + 1, cd, by omega, by go_num, HCN, Lib.hid (HKi.out.less (fun _ h => List.mem_cons_of_mem _ h) (List.Sublist.refl _) (List.sublist_cons_self _ _))⟩
                      case measure => simp [intOf]; omega
                    | true =>
                      have HHE := Lib.hid (HHD.out rfl)
                      have hd3 : decide (hd < hi) = false := decide_eq_false (by have := HHE.out.1; omega)
                      by_cases hl1 : 1 < la
                      · have hl2 : (1 : Int) < (la : Int) := by omega
                        have hcap : T2.length ≤ tk := owned_cap (HKi.out.r (rwI (.slice (some ⟨tg, 0, none⟩) T2.length tk) T2.length T2) (by simp)) rfl
                        have hl3 : la ≤ tk := by omega
                        have hl4 : 1 ≤ la := by omega
                        have hcl : ∀ j, j < la - 1 → w16.cell? ⟨tg, 1 + j, none⟩ = some (.int .i64 (T2.getD (1 + j) 0)) := fun j hj => HKi.out.cellI (g := tg) (n := T2.length) (cap := tk) (l := T2) (.inl (by simp)) (by omega)
                        have HCL := Lib.hid hcl
                        clear hcl
                        go_wp2_with fail
                        refine (max_any (b := tg) (off := 1) (n := la - 1) (c := tk - 1) (f := fun j => T2.getD (1 + j) 0) (by omega) (by omega) HCL.out).mono ?_
                        rintro e w17 ⟨r, rfl, hr, rfl⟩
                        have hd4 : decide (hd ≤ r) = false := decide_eq_false (by
                          obtain ⟨j, j1, e⟩ := hr
                          have h1 := HHE.out.2 (1 + j) (by omega) (by omega)
                          omega)
                        clear hr HCL
                        go_wp2_with fail
                        go_roundw
                        case rel => exact ⟨k + 1, cd, by omega, by go_num, HCN, Lib.hid (HKi.out.less (fun _ h => List.mem_cons_of_mem _ h) (List.Sublist.refl _) (List.sublist_cons_self _ _))⟩
                        case measure => simp [intOf]; omega
                      · have hl2 : ¬ (1 : Int) < (la : Int) := by omega
                        go_wp2_with fail
                        go_roundw
                        case rel => exact ⟨k + 1, cd, by omega, by go_num, HCN, Lib.hid (HKi.out.less (fun _ h => List.mem_cons_of_mem _ h) (List.Sublist.refl _) (List.sublist_cons_self _ _))⟩
                        case measure => simp [intOf]; omega
        · have hke : ¬ (k : Int) < 4 := by omega
          go_wp2_with fail
          refine (awake_any _).mono ?_
          rintro e wz ⟨rfl, hb⟩
          have HB := Lib.hid (HK.out.b.trans (hb.mono HK.out.b.size))
          clear hb
          go_wp2
          go_ret
          exact ⟨rfl, HB.out⟩
end Go.Proofs.Ytohjinbgbfggcaa
