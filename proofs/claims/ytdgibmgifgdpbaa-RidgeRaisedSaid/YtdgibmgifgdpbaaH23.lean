/-
  Parts of the proof, in the order in which they build: Raised.
-/
import Derived.Deep.CutRange
import Derived.BigQuiet
import Derived.Test.YtdgibmgifgdpbaaH16
import Derived.Test.YtdgibmgifgdpbaaH20
import Derived.Test.YtdgibmgifgdpbaaH22
import Derived.Test.YtdgibmgifgdpbaaG16
set_option linter.unusedVariables false
set_option linter.unusedSimpArgs false
namespace Go.Proofs.Ytdgibmgifgdpbaa
open Go.RowKit Go.Shelf
open Lim

set_option maxRecDepth 20000 in
set_option maxHeartbeats 8000000 in
theorem raised_any {B : Nat} {nv : Value} {ns : List Int} {wh by0 : Int} {w : World} (hB : B ≤ w.heap.size) (hn : RS B w nv ns.length (u8s ns)) (hnu : ∀ x ∈ ns, 0 ≤ x ∧ x ≤ 255) :
    Calls Try.prog 5 #[nv, .int .i64 wh, .int .i64 by0] w fun e w' => e = .returned (.bool true) ∧ Below w.heap.size w w' := by
  have HA := Lib.hid (And.intro hB (And.intro hn hnu))
  obtain ⟨na, nc, rfl, -⟩ := hn
  clear hB hnu
  go_enter Try.func5, Try.ntmps5
  go_wp2_with fail
  refine (of_dk HA.out.1 HA.out.2.1 HA.out.2.2).mono ?_
  rintro e w1 ⟨rfl, hd0, hb1, hs1⟩
  have HD0 := Lib.hid (And.intro hd0 (And.intro hb1 hs1))
  clear hd0 hb1 hs1
  go_wp2_with fail
  refine (made_any (d := w.heap.size) (c0 := 0) (HD0.out.1.deck (n := 0) (by omega)) (by omega) (by omega) (by omega)).mono ?_
  rintro e w3 ⟨m, rows, hv, sv, tv, hs, ss, T, c', rfl, hM, hdk, -, hgr, o1, o2, o3⟩
  have HM := Lib.hid hM
  have HO : Hid (openErr (m : Int) hs ss = 0) := Lib.hid (hM.right (by omega) (by omega))
  have HLN := Lib.hid (hM.lens (by omega) (by omega))
  obtain ⟨S, hSe⟩ : ∃ S, S = w1.heap.size := ⟨_, rfl⟩
  have HK0 : Hid (Kept w S w.heap.size c' [rwI tv T, rwI sv ss, rwH hv hs] [] w3) := Lib.hid (by
    have h1 := HD0.out.2.1.size
    have h2 := HD0.out.2.2
    have h4 := hgr.size
    rw [hSe]
    refine ⟨below_grown HD0.out.2.1 hgr h1 (fun r e => by cases e; exact Nat.le_refl _), ⟨Nat.le_refl _, by omega, h4⟩, hdk, ?_, fun p hp => by cases hp⟩
    intro r hr
    simp only [List.mem_cons, List.not_mem_nil, or_false] at hr
    rcases hr with rfl | rfl | rfl
    · exact o3
    · exact o2
    · exact o1)
  obtain ⟨ha, hcap, rfl⟩ : ∃ g cap, hv = .slice (some ⟨g, 0, none⟩) hs.length cap := form_pos (r := rwH hv hs) o1 (show 0 < hs.length by have := HLN.out; omega)
  obtain ⟨sa, scap, rfl⟩ : ∃ g cap, sv = .slice (some ⟨g, 0, none⟩) ss.length cap := form_pos (r := rwI sv ss) o2 (show 0 < ss.length by have := HLN.out; omega)
  obtain ⟨ta, tcap, rfl⟩ : ∃ g cap, tv = .slice (some ⟨g, 0, none⟩) T.length cap := form_pos (r := rwI tv T) o3 (show 0 < T.length by have := HLN.out; omega)
  clear hM hgr o1 o2 o3 hSe HD0 HA hdk
  go_upto_region 2 with (fail)
  have HK1 := Lib.hid (HK0.out.lay (.cells #[.int .i64 m, .slice (some ⟨ha, 0, none⟩) hs.length hcap, .slice (some ⟨sa, 0, none⟩) ss.length scap] 25))
  obtain ⟨q, hqe⟩ : ∃ q, q = w3.heap.size := ⟨_, rfl⟩
  simp only [← hqe] at HK1 ⊢
  generalize w3.alloc (.cells #[.int .i64 m, .slice (some ⟨ha, 0, none⟩) hs.length hcap, .slice (some ⟨sa, 0, none⟩) ss.length scap] 25) = w4 at HK1 ⊢
  clear HK0 hqe
  obtain ⟨b0, b1, b2⟩ := HK1.out.box3 (q := q) (a := .int .i64 m) (b := .slice (some ⟨ha, 0, none⟩) hs.length hcap) (e := .slice (some ⟨sa, 0, none⟩) ss.length scap) (t := 25) (by simp)
  go_wp2_with fail
  refine (fold_nat (v := wh) (n := ss.length) w4 (by have := HLN.out; omega)).mono ?_
  rintro e w5 ⟨c, rfl, hc, rfl⟩
  have HCC := Lib.hid hc
  clear hc
  go_wp2_with fail
  refine (fold_nat (v := by0) (n := 30) w4 (by omega)).mono ?_
  rintro e w5 ⟨u0, rfl, hu0, rfl⟩
  obtain ⟨u, hu⟩ : ∃ u : Int, u = 1 + (u0 : Int) := ⟨_, rfl⟩
  have eu : IntKind.i64.wrap (1 + (u0 : Int)) = u := by rw [hu]; exact IntWalk.i64_in _ (by omega)
  have HU : Hid (1 ≤ u ∧ u ≤ 30) := Lib.hid (by omega)
  clear hu hu0
  go_wp2_with fail
  clear eu
  refine (lclone_any (B := w4.heap.size) (wd := m) (Nat.le_refl _) (HK1.out.rsH (v := .slice (some ⟨ha, 0, none⟩) hs.length hcap) (hs := hs) (by simp)) (HK1.out.rsI (v := .slice (some ⟨sa, 0, none⟩) ss.length scap) (l := ss) (by simp)) (by have := HLN.out; omega) (by have := HLN.out; omega)).mono ?_
  rintro e w5 ⟨hv2, sv2, rfl, o1, o2, hb⟩
  obtain ⟨p, pc, rfl⟩ : ∃ g cap, hv2 = .slice (some ⟨g, 0, none⟩) hs.length cap := form_pos (r := ⟨54, 2, hv2, hs.length, spans hs⟩) o1 (show 0 < hs.length by have := HLN.out; omega)
  obtain ⟨f11, fc, rfl⟩ : ∃ g cap, sv2 = .slice (some ⟨g, 0, none⟩) ss.length cap := form_pos (r := rwI sv2 ss) o2 (show 0 < ss.length by have := HLN.out; omega)
  have HF0 := Lib.hid (FiS.of HK1.out (wd := m) hb o1 o2)
  clear hb o1 o2 b0 b1 b2
  go_upto_region 5 with (fail)
  obtain ⟨q11, hqe⟩ : ∃ q, q = w5.heap.size := ⟨_, rfl⟩
  simp only [← hqe] at HF0 ⊢
  generalize w5.alloc (.cells #[.int .i64 m, .slice (some ⟨p, 0, none⟩) hs.length pc, .slice (some ⟨f11, 0, none⟩) ss.length fc] 25) = w6 at HF0 ⊢
  clear hqe
  have HKF := Lib.hid (HK1.out.fine HF0.out)
  have hlt : c < hs.length := by have := HLN.out; have := HCC.out; omega
  obtain ⟨k0, k1⟩ := HKF.out.cellH (g := ha) (cap := hcap) (l := hs) (by simp) hlt
  obtain ⟨⟨lo, hi⟩, hx⟩ : ∃ x, x = hs.getD c (0, 0) := ⟨_, rfl⟩
  rw [← hx] at k0 k1
  dsimp only at k0 k1
  have HLH : Hid (0 ≤ lo ∧ lo ≤ hi ∧ hi ≤ 14) := Lib.hid (by
    have h := HM.out.cells.h c (by have h1 := HM.out.cells.l1; omega)
    rw [← hx] at h
    dsimp only at h
    omega)
  have HX := Lib.hid hx
  have hi1 : (c : Int) < (hs.length : Int) := by omega
  have ew1 : IntKind.i64.wrap (lo + u) = lo + u := IntWalk.i64_in _ (by have := HLH.out; have := HU.out; omega)
  have ew2 : IntKind.i64.wrap (hi + u) = hi + u := IntWalk.i64_in _ (by have := HLH.out; have := HU.out; omega)
  have HNE : Hid (q11 ≠ p ∧ q ≠ p ∧ ha ≠ p) := Lib.hid (by
    obtain ⟨h1, h2, cs, hp⟩ := owned_block (r := ⟨54, 2, .slice (some ⟨p, 0, none⟩) hs.length pc, hs.length, spans hs⟩) HF0.out.h (k := p) rfl
    have hp : w6.heap[p]? = some (.cells cs 54 (0, 0)) := hp
    obtain ⟨h3, h4, -⟩ := owned_block (HK1.out.r (rwH (.slice (some ⟨ha, 0, none⟩) hs.length hcap) hs) (by simp)) (k := ha) rfl
    have h5 := (HKF.out.x ((q, Obj.cells #[.int .i64 m, .slice (some ⟨ha, 0, none⟩) hs.length hcap, .slice (some ⟨sa, 0, none⟩) ss.length scap] 25 (0, 0))) (by simp)).2
    refine ⟨?_, ?_, by omega⟩
    · intro e
      subst e
      have h8 := HF0.out.bx
      rw [hp] at h8
      have h9 : (54 : TypeId) = 25 := (Obj.cells.inj (Option.some.inj h8)).2.1
      exact absurd h9 (by decide)
    · intro e
      subst e
      rw [hp] at h5
      have h9 : (54 : TypeId) = 25 := (Obj.cells.inj (Option.some.inj h5)).2.1
      exact absurd h9 (by decide))
  have HF3 := Lib.hid (HF0.out.grow (Below.refl _ w6).drew)
  have hC : (fun W => W.cell? ⟨q11, 1, none⟩ = some (.slice (some ⟨p, 0, none⟩) hs.length pc) ∧ W.cell? ⟨q, 1, none⟩ = some (.slice (some ⟨ha, 0, none⟩) hs.length hcap) ∧ W.cell? ⟨ha, c * 2, none⟩ = some (.int .i64 lo) ∧ W.cell? ⟨ha, c * 2 + 1, none⟩ = some (.int .i64 hi)) w6.drew := ⟨HF3.out.box.2.1, (HKF.out.box3 (q := q) (a := .int .i64 m) (b := .slice (some ⟨ha, 0, none⟩) hs.length hcap) (e := .slice (some ⟨sa, 0, none⟩) ss.length scap) (t := 25) (by simp)).2.1, k0, k1⟩
  clear hx k0 k1 HF0 HKF
  generalize hW0 : w6.drew = W1 at HF3 hC
  refine Lim.regC' (fun W => W.cell? ⟨q11, 1, none⟩ = some (.slice (some ⟨p, 0, none⟩) hs.length pc) ∧ W.cell? ⟨q, 1, none⟩ = some (.slice (some ⟨ha, 0, none⟩) hs.length hcap) ∧ W.cell? ⟨ha, c * 2, none⟩ = some (.int .i64 lo) ∧ W.cell? ⟨ha, c * 2 + 1, none⟩ = some (.int .i64 hi)) [] #[false, false, false, false, false, false, false, false, false, false, false, false, false, false, false, false, false, false, false, false, false, false] (by kernel_rfl) rfl ?_
  rw [hW0]; clear hW0
  refine Lim.stepR 0 (fun _ => trivial) rfl (by kernel_rfl) (fun _ _ _ _ h => h) hC rfl ?_; apply Exists.intro; refine ⟨?_, ?_⟩
  · rintro w ⟨r1, r2, r3, r4⟩; go_simp; try with_reducible rfl
  simp only [Act.put, List.setIfInBounds_toArray, List.set_cons_succ, List.set_cons_zero]
  refine Lim.stepR 1 (fun _ => trivial) rfl (by kernel_rfl) (fun _ _ _ _ h => h) hC rfl ?_; apply Exists.intro; refine ⟨?_, ?_⟩
  · rintro w ⟨r1, r2, r3, r4⟩; go_simp; try with_reducible rfl
  simp only [Act.put, List.setIfInBounds_toArray, List.set_cons_succ, List.set_cons_zero]
  refine Lim.stepR 2 (fun _ => trivial) rfl (by kernel_rfl) (fun _ _ _ _ h => h) hC rfl ?_; apply Exists.intro; refine ⟨?_, ?_⟩
  · rintro w ⟨r1, r2, r3, r4⟩; go_simp; try with_reducible rfl
  simp only [Act.put, List.setIfInBounds_toArray, List.set_cons_succ, List.set_cons_zero]
  refine Lim.stepR 3 (fun _ => trivial) rfl (by kernel_rfl) (fun _ _ _ _ h => h) hC rfl ?_; apply Exists.intro; refine ⟨?_, ?_⟩
  · rintro w ⟨r1, r2, r3, r4⟩; go_simp; try with_reducible rfl
  simp only [Act.put, List.setIfInBounds_toArray, List.set_cons_succ, List.set_cons_zero]
  refine Lim.stepR 4 (fun _ => trivial) rfl (by kernel_rfl) (fun _ _ _ _ h => h) hC rfl ?_; apply Exists.intro; refine ⟨?_, ?_⟩
  · rintro w ⟨r1, r2, r3, r4⟩; go_simp; try with_reducible rfl
  simp only [Act.put, List.setIfInBounds_toArray, List.set_cons_succ, List.set_cons_zero]
  refine Lim.stepR 5 (fun _ => trivial) rfl (by kernel_rfl) (fun _ _ _ _ h => h) hC rfl ?_; apply Exists.intro; refine ⟨?_, ?_⟩
  · rintro w ⟨r1, r2, r3, r4⟩; go_simp; try with_reducible rfl
  simp only [Act.put, List.setIfInBounds_toArray, List.set_cons_succ, List.set_cons_zero]
  refine Lim.stepR 6 (fun _ => trivial) rfl (by kernel_rfl) (fun _ _ _ _ h => h) hC rfl ?_; apply Exists.intro; refine ⟨?_, ?_⟩
  · rintro w ⟨r1, r2, r3, r4⟩; go_simp; try with_reducible rfl
  simp only [Act.put, List.setIfInBounds_toArray, List.set_cons_succ, List.set_cons_zero]
  refine Lim.stepR 7 (fun _ => trivial) rfl (by kernel_rfl) (fun _ _ _ _ h => h) hC rfl ?_; apply Exists.intro; refine ⟨?_, ?_⟩
  · rintro w ⟨r1, r2, r3, r4⟩; go_simp; try with_reducible rfl
  simp only [Act.put, List.setIfInBounds_toArray, List.set_cons_succ, List.set_cons_zero]
  refine Lim.stepR 8 (fun _ => trivial) rfl (by kernel_rfl) (fun _ _ _ _ h => h) hC rfl ?_; apply Exists.intro; refine ⟨?_, ?_⟩
  · rintro w ⟨r1, r2, r3, r4⟩; go_simp; try with_reducible rfl
  simp only [Act.put, List.setIfInBounds_toArray, List.set_cons_succ, List.set_cons_zero]
  refine Lim.stepR 9 (fun _ => trivial) rfl (by kernel_rfl) (fun _ _ _ _ h => h) hC rfl ?_; apply Exists.intro; refine ⟨?_, ?_⟩
  · rintro w ⟨r1, r2, r3, r4⟩; go_simp; try with_reducible rfl
  simp only [Act.put, List.setIfInBounds_toArray, List.set_cons_succ, List.set_cons_zero]
  refine Lim.stepR 10 (fun _ => trivial) rfl (by kernel_rfl) (fun _ _ _ _ h => h) hC rfl ?_; apply Exists.intro; refine ⟨?_, ?_⟩
  · rintro w ⟨r1, r2, r3, r4⟩; go_simp; try with_reducible rfl
  simp only [Act.put, List.setIfInBounds_toArray, List.set_cons_succ, List.set_cons_zero]
  refine Lim.stepR 11 (fun _ => trivial) rfl (by kernel_rfl) (fun _ _ _ _ h => h) hC rfl ?_; apply Exists.intro; refine ⟨?_, ?_⟩
  · rintro w ⟨r1, r2, r3, r4⟩; go_simp; try with_reducible rfl
  simp only [Act.put, List.setIfInBounds_toArray, List.set_cons_succ, List.set_cons_zero]
  refine Lim.stepR 12 (fun _ => trivial) rfl (by kernel_rfl) (fun _ _ _ _ h => h) hC rfl ?_; apply Exists.intro; refine ⟨?_, ?_⟩
  · rintro w ⟨r1, r2, r3, r4⟩; go_simp; try with_reducible rfl
  simp only [Act.put, List.setIfInBounds_toArray, List.set_cons_succ, List.set_cons_zero]
  refine Lim.stepR 13 (fun _ => trivial) rfl (by kernel_rfl) (fun _ _ _ _ h => h) hC rfl ?_; apply Exists.intro; refine ⟨?_, ?_⟩
  · rintro w ⟨r1, r2, r3, r4⟩; go_simp; try with_reducible rfl
  simp only [Act.put, List.setIfInBounds_toArray, List.set_cons_succ, List.set_cons_zero]
  refine Lim.stepR 14 (fun _ => trivial) rfl (by kernel_rfl) (fun _ _ _ _ h => h) hC rfl ?_; apply Exists.intro; refine ⟨?_, ?_⟩
  · rintro w ⟨r1, r2, r3, r4⟩; go_simp; try with_reducible rfl
  simp only [Act.put, List.setIfInBounds_toArray, List.set_cons_succ, List.set_cons_zero]
  refine Lim.stepR 15 (fun _ => trivial) rfl (by kernel_rfl) (fun _ _ _ _ h => h) hC rfl ?_; apply Exists.intro; refine ⟨?_, ?_⟩
  · rintro w ⟨r1, r2, r3, r4⟩; go_simp; try with_reducible rfl
  simp only [Act.put, List.setIfInBounds_toArray, List.set_cons_succ, List.set_cons_zero]
  refine Lim.stepR 16 (fun _ => trivial) rfl (by kernel_rfl) (fun _ _ _ _ h => h) hC rfl ?_; apply Exists.intro; refine ⟨?_, ?_⟩
  · rintro w ⟨r1, r2, r3, r4⟩; go_simp; try with_reducible rfl
  simp only [Act.put, List.setIfInBounds_toArray, List.set_cons_succ, List.set_cons_zero]
  refine Lim.stepR 17 (fun _ => trivial) rfl (by kernel_rfl) (fun _ _ _ _ h => h) hC rfl ?_; apply Exists.intro; refine ⟨?_, ?_⟩
  · rintro w ⟨r1, r2, r3, r4⟩; go_simp; try with_reducible rfl
  simp only [Act.put, List.setIfInBounds_toArray, List.set_cons_succ, List.set_cons_zero]
  refine Lim.stepR 18 (fun _ => trivial) rfl (by kernel_rfl) (fun _ _ _ _ h => h) hC rfl ?_; apply Exists.intro; refine ⟨?_, ?_⟩
  · rintro w ⟨r1, r2, r3, r4⟩; go_simp; try with_reducible rfl
  simp only [Act.put, List.setIfInBounds_toArray, List.set_cons_succ, List.set_cons_zero]
  refine Lim.stepE 19 (fun _ => trivial) rfl (by kernel_rfl) rfl (fun K hK => ?_)   -- E call
  go_simp
  refine ⟨rfl, (callsIn_wide.2 (span_any (lo + u) (hi + u) _)).mono ?_⟩
  rintro e W4 ⟨rfl, hb4⟩
  have HF4 := Lib.hid (HF3.out.grow hb4)
  have hC4 : (fun W => W.cell? ⟨q11, 1, none⟩ = some (.slice (some ⟨p, 0, none⟩) hs.length pc) ∧ W.cell? ⟨q, 1, none⟩ = some (.slice (some ⟨ha, 0, none⟩) hs.length hcap) ∧ W.cell? ⟨ha, c * 2, none⟩ = some (.int .i64 lo) ∧ W.cell? ⟨ha, c * 2 + 1, none⟩ = some (.int .i64 hi)) W4 := ⟨cell_on hb4 hC.1, cell_on hb4 hC.2.1, cell_on hb4 hC.2.2.1, cell_on hb4 hC.2.2.2⟩
  refine hK _ _ hC4 ?_
  clear hb4 HF3 hC
  simp only [Act.put, List.setIfInBounds_toArray, List.set_cons_succ, List.set_cons_zero]
  refine Lim.stepR 20 (fun _ => trivial) rfl (by kernel_rfl) (fun _ _ _ _ h => h) hC4 rfl ?_; apply Exists.intro; refine ⟨?_, ?_⟩
  · rintro w ⟨r1, r2, r3, r4⟩; go_simp; try with_reducible rfl
  simp only [Act.put, List.setIfInBounds_toArray, List.set_cons_succ, List.set_cons_zero]
  refine Lim.stepE 21 (fun _ => trivial) rfl (by kernel_rfl) rfl (fun K hK => ?_)   -- E store
  obtain ⟨⟨k0, k1⟩, g0, g1⟩ := span_at HF4.out.h hlt
  have k1' : (W4.setCell ⟨p, c * 2, none⟩ (.int .i64 (lo + u))).cell? ⟨p, c * 2 + 1, none⟩ = some _ := (setCell_off _ _ (by omega)).trans k1
  have g1' : (W4.setCell ⟨p, c * 2, none⟩ (.int .i64 (lo + u))).frozen? ⟨p, c * 2 + 1, none⟩ = false := (World.frozen?_setCell ..).trans g1
  have HF5 := Lib.hid (HF4.out.put c (lo + u) (hi + u))
  have hC5 : (fun W => W.cell? ⟨q11, 1, none⟩ = some (.slice (some ⟨p, 0, none⟩) hs.length pc) ∧ W.cell? ⟨q, 1, none⟩ = some (.slice (some ⟨ha, 0, none⟩) hs.length hcap) ∧ W.cell? ⟨ha, c * 2, none⟩ = some (.int .i64 lo) ∧ W.cell? ⟨ha, c * 2 + 1, none⟩ = some (.int .i64 hi)) ((W4.setCell ⟨p, c * 2, none⟩ (.int .i64 (lo + u))).setCell ⟨p, c * 2 + 1, none⟩ (.int .i64 (hi + u))) := ⟨(setCell_far _ _ HNE.out.1.symm).trans ((setCell_far _ _ HNE.out.1.symm).trans hC4.1), (setCell_far _ _ HNE.out.2.1.symm).trans ((setCell_far _ _ HNE.out.2.1.symm).trans hC4.2.1), (setCell_far _ _ HNE.out.2.2.symm).trans ((setCell_far _ _ HNE.out.2.2.symm).trans hC4.2.2.1), (setCell_far _ _ HNE.out.2.2.symm).trans ((setCell_far _ _ HNE.out.2.2.symm).trans hC4.2.2.2)⟩
  clear k1 g1
  go_simp
  refine hK _ _ hC5 ?_
  simp only [Act.put, List.setIfInBounds_toArray, List.set_cons_succ, List.set_cons_zero]
  refine Lim.stepD (by kernel_rfl) ?_
  clear hC5 hC4 HF4 k0 k1' g0 g1' ew1 ew2
  generalize (W4.setCell ⟨p, c * 2, none⟩ (.int .i64 (lo + u))).setCell ⟨p, c * 2 + 1, none⟩ (.int .i64 (hi + u)) = w7 at HF5 ⊢
  have HRS : Hid (Raised hs (hs.set c (lo + u, hi + u)) u) := Lib.hid (Raised.of (by have := HU.out; omega) HX.out)
  have HOF : Hid (openErr (m : Int) (hs.set c (lo + u, hi + u)) ss = 0) := Lib.hid (re_open HO.out (by rw [List.length_set]) (fun k hk => by
    have h1 := goodSpan (openErr_zero HO.out).2.2.1 hk
    rw [spget]
    have h2 := HLH.out
    have h3 := HU.out
    split
    · dsimp only; omega
    · omega))
  obtain ⟨H, hH⟩ : ∃ H, H = hs.set c (lo + u, hi + u) := ⟨_, rfl⟩
  have hHl : H.length = hs.length := by rw [hH, List.length_set]
  have HK2 : Hid (Kept w S w.heap.size c' [rwH (.slice (some ⟨p, 0, none⟩) H.length pc) H, rwI (.slice (some ⟨f11, 0, none⟩) ss.length fc) ss, rwI (.slice (some ⟨ta, 0, none⟩) T.length tcap) T, rwI (.slice (some ⟨sa, 0, none⟩) ss.length scap) ss, rwH (.slice (some ⟨ha, 0, none⟩) hs.length hcap) hs] [(q11, Obj.cells #[.int .i64 m, .slice (some ⟨p, 0, none⟩) H.length pc, .slice (some ⟨f11, 0, none⟩) ss.length fc] 25 (0, 0)), (q, Obj.cells #[.int .i64 m, .slice (some ⟨ha, 0, none⟩) hs.length hcap, .slice (some ⟨sa, 0, none⟩) ss.length scap] 25 (0, 0))] w7) := Lib.hid (by
    have h := HF5.out
    rw [← hH, ← hHl] at h
    exact HK1.out.fined h)
  rw [← hH] at HRS HOF
  have HHL := Lib.hid hHl
  clear HF5 HK1 hH hHl hlt hi1 HNE
  obtain ⟨b0, b1, b2⟩ := HK2.out.box3 (q := q) (a := .int .i64 m) (b := .slice (some ⟨ha, 0, none⟩) hs.length hcap) (e := .slice (some ⟨sa, 0, none⟩) ss.length scap) (t := 25) (by simp)
  go_wp2_with fail
  refine (Saddle_any (B := w7.heap.size) (Nat.le_refl _) (HK2.out.rsH (v := .slice (some ⟨ha, 0, none⟩) hs.length hcap) (hs := hs) (by simp)) (HK2.out.rsI (v := .slice (some ⟨sa, 0, none⟩) ss.length scap) (l := ss) (by simp))).mono ?_
  rintro e w8 ⟨x, y, er, rfl, hb, hans⟩
  have HSD := Lib.hid hans
  have HKa := Lib.hid (HK2.out.grow hb)
  clear hb hans HK2 b0 b1 b2
  go_upto_region 7 with (fail)
  have HK3 := Lib.hid (HKa.out.lay (.cells #[.int .i64 x, .int .i64 y] 54))
  obtain ⟨q12, hqe⟩ : ∃ q, q = w8.heap.size := ⟨_, rfl⟩
  simp only [← hqe] at HK3 ⊢
  generalize w8.alloc (.cells #[.int .i64 x, .int .i64 y] 54) = w9 at HK3 ⊢
  clear HKa hqe
  obtain ⟨f0, f1, f2⟩ := HK3.out.box3 (q := q11) (a := .int .i64 m) (b := .slice (some ⟨p, 0, none⟩) H.length pc) (e := .slice (some ⟨f11, 0, none⟩) ss.length fc) (t := 25) (by simp)
  go_wp2_with fail
  refine (Saddle_any (B := w9.heap.size) (Nat.le_refl _) (HK3.out.rsH (v := .slice (some ⟨p, 0, none⟩) H.length pc) (hs := H) (by simp)) (HK3.out.rsI (v := .slice (some ⟨f11, 0, none⟩) ss.length fc) (l := ss) (by simp))).mono ?_
  rintro e w10 ⟨x', y', er2, rfl, hb, hans⟩
  obtain ⟨her, her7, hsf⟩ := raise_sad HO.out HOF.out HRS.out HSD.out hans
  subst her
  have HS2 := Lib.hid hans
  have HSS := Lib.hid (And.intro her7 hsf)
  have HKb := Lib.hid (HK3.out.grow hb)
  clear hb hans HK3 f0 f1 f2 her7 hsf
  go_upto_region 8 with (fail)
  have HK4 := Lib.hid (HKb.out.lay (.cells #[.int .i64 x', .int .i64 y'] 54))
  obtain ⟨q14, hqe⟩ : ∃ q, q = w10.heap.size := ⟨_, rfl⟩
  simp only [← hqe] at HK4 ⊢
  generalize w10.alloc (.cells #[.int .i64 x', .int .i64 y'] 54) = w11 at HK4 ⊢
  clear HKb hqe
  obtain ⟨e0, e1⟩ := HK4.out.box2 (q := q14) (a := .int .i64 x') (b := .int .i64 y') (t := 54) (by simp)
  obtain ⟨f0, f1⟩ := HK4.out.box2 (q := q12) (a := .int .i64 x) (b := .int .i64 y) (t := 54) (by simp)
  have hne : (er2 != er2) = false := by simp
  go_cut [118] from 80 to 118 (fun s118 wx => s118 = .bool false ∧ wx = w11)
  case first =>
    as_aux_lemma =>
      rcases HSS.out.1 with h0 | h7
      · obtain ⟨i1, i2, i3, i4⟩ := HSS.out.2 h0
        subst h0
        have hr := sad_range HO.out HSD.out
        have hu := HU.out
        have ew1 : IntKind.i64.wrap (x + u) = x + u := IntWalk.i64_in _ (by omega)
        have ew2 : IntKind.i64.wrap (y + u) = y + u := IntWalk.i64_in _ (by omega)
        have z1 : decide (x' < x) = false := by rw [decide_eq_false_iff_not]; omega
        have z2 : decide (y' < y) = false := by rw [decide_eq_false_iff_not]; omega
        have z3 : decide (x + u < x') = false := by rw [decide_eq_false_iff_not]; omega
        have z4 : decide (y + u < y') = false := by rw [decide_eq_false_iff_not]; omega
        clear i1 i2 i3 i4 hr hu
        go_wp2
        go_meet
        case rel => exact ⟨rfl, rfl⟩
      · subst h7
        go_wp2
        go_meet
        case rel => exact ⟨rfl, rfl⟩
  case rest =>
    as_aux_lemma =>
      obtain ⟨rfl, rfl⟩ := hcut
      clear e0 e1 f0 f1 hne
      go_wp2_with fail
      go_loopw [16] (fun i W => ∃ s : Nat, 1 ≤ s ∧ s ≤ 3 ∧ i = .int .i64 s ∧ Hid (Kept w S w.heap.size c' [rwH (.slice (some ⟨p, 0, none⟩) H.length pc) H, rwI (.slice (some ⟨f11, 0, none⟩) ss.length fc) ss, rwI (.slice (some ⟨ta, 0, none⟩) T.length tcap) T, rwI (.slice (some ⟨sa, 0, none⟩) ss.length scap) ss, rwH (.slice (some ⟨ha, 0, none⟩) hs.length hcap) hs] [(q14, Obj.cells #[.int .i64 x', .int .i64 y'] 54 (0, 0)), (q12, Obj.cells #[.int .i64 x, .int .i64 y] 54 (0, 0)), (q11, Obj.cells #[.int .i64 m, .slice (some ⟨p, 0, none⟩) H.length pc, .slice (some ⟨f11, 0, none⟩) ss.length fc] 25 (0, 0)), (q, Obj.cells #[.int .i64 m, .slice (some ⟨ha, 0, none⟩) hs.length hcap, .slice (some ⟨sa, 0, none⟩) ss.length scap] 25 (0, 0))] W)) (fun i _ => 3 - (intOf i).toNat)
      case atStart => exact ⟨1, Nat.le_refl _, by omega, rfl, HK4⟩
      case round =>
        as_aux_lemma =>
          clear HK4
          obtain ⟨s, hs1, hs3, rfl, HK⟩ := hrel
          by_cases hs2 : s ≤ 2
          · obtain ⟨b0, b1, b2⟩ := HK.out.box3 (q := q) (a := .int .i64 m) (b := .slice (some ⟨ha, 0, none⟩) hs.length hcap) (e := .slice (some ⟨sa, 0, none⟩) ss.length scap) (t := 25) (by simp)
            obtain ⟨f0, f1, f2⟩ := HK.out.box3 (q := q11) (a := .int .i64 m) (b := .slice (some ⟨p, 0, none⟩) H.length pc) (e := .slice (some ⟨f11, 0, none⟩) ss.length fc) (t := 25) (by simp)
            have hs2i : (s : Int) ≤ 2 := by omega
            have HSS : Hid ((s : Int) = 1 ∨ (s : Int) = 2) := Lib.hid (by omega)
            go_wp2_with fail
            refine (Passes_any (B := wr.heap.size) (sea := s) (Nat.le_refl _) (HK.out.rsH (v := .slice (some ⟨ha, 0, none⟩) hs.length hcap) (hs := hs) (by simp)) (HK.out.rsI (v := .slice (some ⟨sa, 0, none⟩) ss.length scap) (l := ss) (by simp))).mono ?_
            rintro e w20 ⟨va, e1, la, rfl, hb, hpa, ho⟩
            have HKs := Lib.hid ((HK.out.grow hb).addR (r := rwH va la) HK.out.o.2.2 ho)
            have HPA := Lib.hid (And.intro hpa ho)
            clear hb hpa ho HK b0 b1 b2 f0 f1 f2
            obtain ⟨f0, f1, f2⟩ := HKs.out.box3 (q := q11) (a := .int .i64 m) (b := .slice (some ⟨p, 0, none⟩) H.length pc) (e := .slice (some ⟨f11, 0, none⟩) ss.length fc) (t := 25) (by simp)
            go_wp2_with fail
            refine (Passes_any (B := w20.heap.size) (sea := s) (Nat.le_refl _) (HKs.out.rsH (v := .slice (some ⟨p, 0, none⟩) H.length pc) (hs := H) (by simp)) (HKs.out.rsI (v := .slice (some ⟨f11, 0, none⟩) ss.length fc) (l := ss) (by simp))).mono ?_
            rintro e w21 ⟨vb, e2, lb, rfl, hb, hpb, ho⟩
            obtain ⟨rfl, rfl, hla, hlb, hab⟩ := raise_pass HO.out HOF.out HRS.out HSS.out HPA.out.1 hpb
            have HKc := Lib.hid ((HKs.out.grow hb).addR (r := rwH vb lb) HKs.out.o.2.2 ho)
            obtain ⟨al, lc, rfl⟩ : ∃ g cap, va = .slice (some ⟨g, 0, none⟩) la.length cap := form_pos (r := rwH va la) HPA.out.2 (show 0 < la.length by have := HLN.out; omega)
            obtain ⟨bl, mc, rfl⟩ : ∃ g cap, vb = .slice (some ⟨g, 0, none⟩) lb.length cap := form_pos (r := rwH vb lb) ho (show 0 < lb.length by have := HLN.out; omega)
            have HAB := Lib.hid (And.intro hla (And.intro hlb hab))
            clear hb hpb ho HKs f0 f1 f2 HPA hla hlb hab
            have hla1 : ((lb.length : Nat) : Int) = ((la.length : Nat) : Int) := by rw [HAB.out.1, HAB.out.2.1]
            go_wp2_with fail
            clear hla1
            go_loopw [150] (fun i W => ∃ j : Nat, j ≤ la.length ∧ i = .int .i64 j ∧ Hid (Kept w S w.heap.size c' [rwH (.slice (some ⟨bl, 0, none⟩) lb.length mc) lb, rwH (.slice (some ⟨al, 0, none⟩) la.length lc) la, rwH (.slice (some ⟨p, 0, none⟩) H.length pc) H, rwI (.slice (some ⟨f11, 0, none⟩) ss.length fc) ss, rwI (.slice (some ⟨ta, 0, none⟩) T.length tcap) T, rwI (.slice (some ⟨sa, 0, none⟩) ss.length scap) ss, rwH (.slice (some ⟨ha, 0, none⟩) hs.length hcap) hs] [(q14, Obj.cells #[.int .i64 x', .int .i64 y'] 54 (0, 0)), (q12, Obj.cells #[.int .i64 x, .int .i64 y] 54 (0, 0)), (q11, Obj.cells #[.int .i64 m, .slice (some ⟨p, 0, none⟩) H.length pc, .slice (some ⟨f11, 0, none⟩) ss.length fc] 25 (0, 0)), (q, Obj.cells #[.int .i64 m, .slice (some ⟨ha, 0, none⟩) hs.length hcap, .slice (some ⟨sa, 0, none⟩) ss.length scap] 25 (0, 0))] W)) (fun i _ => la.length - (intOf i).toNat)
            case atStart => exact ⟨0, Nat.zero_le _, rfl, HKc⟩
            case round =>
              as_aux_lemma =>
                clear HKc
                obtain ⟨j, hj, rfl, HK⟩ := hrel
                by_cases hlj : j < la.length
                · have hjb : j < lb.length := by have h1 := HAB.out.1; have h2 := HAB.out.2.1; omega
                  obtain ⟨q1, q2⟩ := HK.out.cellH (g := al) (cap := lc) (l := la) (by simp) hlj
                  obtain ⟨q3, q4⟩ := HK.out.cellH (g := bl) (cap := mc) (l := lb) (by simp) hjb
                  obtain ⟨i1, i2⟩ := HAB.out.2.2 j (by have h1 := HAB.out.1; omega)
                  obtain ⟨⟨y1, y2⟩, hy⟩ : ∃ yj, yj = la.getD j (0, 0) := ⟨_, rfl⟩
                  obtain ⟨⟨z1, z2⟩, hz⟩ : ∃ zj, zj = lb.getD j (0, 0) := ⟨_, rfl⟩
                  rw [← hy] at q1 q2 i1 i2
                  rw [← hz] at q3 q4 i1 i2
                  dsimp only at q1 q2 q3 q4 i1 i2
                  have d2 : decide (z1 < y1) = false := by rw [decide_eq_false_iff_not]; omega
                  have d3 : decide (z2 < y2) = false := by rw [decide_eq_false_iff_not]; omega
                  have hi1 : (j : Int) < (la.length : Int) := by omega
                  have hi2 : (j : Int) < (lb.length : Int) := by omega
                  have hi5 : j < la.length := hlj
                  have hi3 : (j : Int) < 1000 := by have h2 := HAB.out.1; have h3 := HLN.out; omega
                  clear hy hz i1 i2
                  go_wp2_with fail
                  go_quiet (fail)
                  have HK' := Lib.hid (HK.out.grow (below_drewN (Below.refl wr.heap.size wr) nq))
                  clear HK q1 q2 q3 q4
                  generalize wr.drewN nq = wq at HK' ⊢
                  go_wp2
                  go_roundw
                  case rel => exact ⟨j + 1, by omega, by go_num, HK'⟩
                  case measure => simp [intOf]; omega
                · have hjl : j = la.length := by omega
                  subst hjl
                  go_wp2
                  go_roundw
                  case rel => exact ⟨s + 1, by omega, by omega, by go_num, Lib.hid (HK.out.less (fun r h => .tail _ (.tail _ h)) (fun p h => h))⟩
                  case measure => simp [intOf]; omega
          · have hse : ¬ ((s : Int) ≤ 2) := by omega
            clear hs2 hs1 hs3
            go_wp2_with fail
            clear hse
            go_loopw [22] (fun i W => ∃ s : Nat, 1 ≤ s ∧ s ≤ 3 ∧ i = .int .i64 s ∧ Hid (Kept w S w.heap.size c' [rwH (.slice (some ⟨p, 0, none⟩) H.length pc) H, rwI (.slice (some ⟨f11, 0, none⟩) ss.length fc) ss, rwI (.slice (some ⟨ta, 0, none⟩) T.length tcap) T, rwI (.slice (some ⟨sa, 0, none⟩) ss.length scap) ss, rwH (.slice (some ⟨ha, 0, none⟩) hs.length hcap) hs] [(q14, Obj.cells #[.int .i64 x', .int .i64 y'] 54 (0, 0)), (q12, Obj.cells #[.int .i64 x, .int .i64 y] 54 (0, 0)), (q11, Obj.cells #[.int .i64 m, .slice (some ⟨p, 0, none⟩) H.length pc, .slice (some ⟨f11, 0, none⟩) ss.length fc] 25 (0, 0)), (q, Obj.cells #[.int .i64 m, .slice (some ⟨ha, 0, none⟩) hs.length hcap, .slice (some ⟨sa, 0, none⟩) ss.length scap] 25 (0, 0))] W)) (fun i _ => 3 - (intOf i).toNat)
            case atStart => exact ⟨1, Nat.le_refl _, by omega, rfl, HK⟩
            case round =>
              as_aux_lemma =>
                clear HK
                obtain ⟨s', hs1, hs3, rfl, HK⟩ := hrel
                by_cases hs2 : s' ≤ 2
                · obtain ⟨b0, b1, b2⟩ := HK.out.box3 (q := q) (a := .int .i64 m) (b := .slice (some ⟨ha, 0, none⟩) hs.length hcap) (e := .slice (some ⟨sa, 0, none⟩) ss.length scap) (t := 25) (by simp)
                  have hs2i : (s' : Int) ≤ 2 := by omega
                  have HSS : Hid ((s' : Int) = 1 ∨ (s' : Int) = 2) := Lib.hid (by omega)
                  go_wp2_with fail
                  refine (lclone_any (B := wr.heap.size) (wd := m) (Nat.le_refl _) (HK.out.rsH (v := .slice (some ⟨ha, 0, none⟩) hs.length hcap) (hs := hs) (by simp)) (HK.out.rsI (v := .slice (some ⟨sa, 0, none⟩) ss.length scap) (l := ss) (by simp)) (by have := HLN.out; omega) (by have := HLN.out; omega)).mono ?_
                  rintro e w5 ⟨hv3, sv3, rfl, o1, o2, hb⟩
                  obtain ⟨p3, pc3, rfl⟩ : ∃ g cap, hv3 = .slice (some ⟨g, 0, none⟩) hs.length cap := form_pos (r := ⟨54, 2, hv3, hs.length, spans hs⟩) o1 (show 0 < hs.length by have := HLN.out; omega)
                  obtain ⟨g3, gc3, rfl⟩ : ∃ g cap, sv3 = .slice (some ⟨g, 0, none⟩) ss.length cap := form_pos (r := rwI sv3 ss) o2 (show 0 < ss.length by have := HLN.out; omega)
                  have HF0 := Lib.hid (FiS.of HK.out (wd := m) hb o1 o2)
                  clear hb o1 o2 b0 b1 b2
                  go_upto_region 27 with (fail)
                  obtain ⟨q23, hqe⟩ : ∃ q, q = w5.heap.size := ⟨_, rfl⟩
                  simp only [← hqe] at HF0 ⊢
                  generalize w5.alloc (.cells #[.int .i64 m, .slice (some ⟨p3, 0, none⟩) hs.length pc3, .slice (some ⟨g3, 0, none⟩) ss.length gc3] 25) = w6 at HF0 ⊢
                  clear hqe
                  obtain ⟨v0, v1, v2⟩ := HF0.out.box
                  have hcl : c < ss.length := HCC.out
                  have hi1 : (c : Int) < (ss.length : Int) := by omega
                  have hf9 := HF0.out.s.frozenAt c
                  have kc : w6.cell? ⟨g3, c, none⟩ = some (.int .i64 (ss.getD c 0)) := by
                    rw [HF0.out.s.cellAt c (by omega), ints_at' ss c hcl, List.getD_eq_getElem?_getD]
                  have HF1 := Lib.hid (HF0.out.putS c (s' : Int))
                  go_upto_region 28 with (fail)
                  clear v0 v1 v2 hf9 kc
                  generalize w6.setCell ⟨g3, c, none⟩ (.int .i64 s') = w7 at HF1 ⊢
                  have hql : (ss.set c (s' : Int)).length = ss.length := List.length_set
                  have HKw : Hid (Kept w S w.heap.size c' (rwH (.slice (some ⟨p3, 0, none⟩) hs.length pc3) hs :: rwI (.slice (some ⟨g3, 0, none⟩) ss.length gc3) (ss.set c (s' : Int)) :: [rwH (.slice (some ⟨p, 0, none⟩) H.length pc) H, rwI (.slice (some ⟨f11, 0, none⟩) ss.length fc) ss, rwI (.slice (some ⟨ta, 0, none⟩) T.length tcap) T, rwI (.slice (some ⟨sa, 0, none⟩) ss.length scap) ss, rwH (.slice (some ⟨ha, 0, none⟩) hs.length hcap) hs]) ((q23, Obj.cells #[.int .i64 m, .slice (some ⟨p3, 0, none⟩) hs.length pc3, .slice (some ⟨g3, 0, none⟩) ss.length gc3] 25 (0, 0)) :: [(q14, Obj.cells #[.int .i64 x', .int .i64 y'] 54 (0, 0)), (q12, Obj.cells #[.int .i64 x, .int .i64 y] 54 (0, 0)), (q11, Obj.cells #[.int .i64 m, .slice (some ⟨p, 0, none⟩) H.length pc, .slice (some ⟨f11, 0, none⟩) ss.length fc] 25 (0, 0)), (q, Obj.cells #[.int .i64 m, .slice (some ⟨ha, 0, none⟩) hs.length hcap, .slice (some ⟨sa, 0, none⟩) ss.length scap] 25 (0, 0))]) w7) := Lib.hid (by
                    have hu := HF1.out
                    exact (((HK.out.fine hu).addR (r := rwI (.slice (some ⟨g3, 0, none⟩) ss.length gc3) (ss.set c (s' : Int))) HK.out.o.2.2 hu.s).addR (r := rwH (.slice (some ⟨p3, 0, none⟩) hs.length pc3) hs) HK.out.o.2.2 hu.h).addX (Nat.le_trans HK.out.o.2.2 hu.q.1) hu.bx)
                  clear HF0 HF1 HK
                  obtain ⟨b0, b1, b2⟩ := HKw.out.box3 (q := q) (a := .int .i64 m) (b := .slice (some ⟨ha, 0, none⟩) hs.length hcap) (e := .slice (some ⟨sa, 0, none⟩) ss.length scap) (t := 25) (by simp)
                  have q0 := HKw.out.cellI (g := sa) (cap := scap) (l := ss) (by simp) hcl
                  obtain ⟨sc, hsc⟩ : ∃ sc, sc = ss.getD c 0 := ⟨_, rfl⟩
                  rw [← hsc] at q0
                  have HQL := Lib.hid hql
                  clear hql
                  by_cases h0 : sc = 0
                  · subst h0
                    have HSC := Lib.hid hsc.symm
                    clear hsc
                    obtain ⟨o0, o1, o2⟩ := HKw.out.box3 (q := q23) (a := .int .i64 m) (b := .slice (some ⟨p3, 0, none⟩) hs.length pc3) (e := .slice (some ⟨g3, 0, none⟩) ss.length gc3) (t := 25) (by simp)
                    go_wp2_with fail
                    refine (Check_any (B := w7.heap.size) (Nat.le_refl _) (HKw.out.rsH (v := .slice (some ⟨p3, 0, none⟩) hs.length pc3) (hs := hs) (by simp)) (HKw.out.rsI (v := .slice (some ⟨g3, 0, none⟩) ss.length gc3) (l := (ss.set c (s' : Int))) (by simp))).mono ?_
                    rintro e w8 ⟨rfl, hb⟩
                    have HKx := Lib.hid (HKw.out.grow hb)
                    clear hb HKw b0 b1 b2 o0 o1 o2 q0
                    obtain ⟨ce, hce⟩ : ∃ ce, ce = openErr (m : Int) hs (ss.set c (s' : Int)) := ⟨_, rfl⟩
                    rw [← hce]
                    by_cases hc0 : ce = 0
                    · have HOW : Hid (openErr (m : Int) hs (ss.set c (s' : Int)) = 0) := Lib.hid (by rw [← hce]; exact hc0)
                      subst hc0
                      clear hce
                      obtain ⟨b0, b1, b2⟩ := HKx.out.box3 (q := q) (a := .int .i64 m) (b := .slice (some ⟨ha, 0, none⟩) hs.length hcap) (e := .slice (some ⟨sa, 0, none⟩) ss.length scap) (t := 25) (by simp)
                      obtain ⟨o0, o1, o2⟩ := HKx.out.box3 (q := q23) (a := .int .i64 m) (b := .slice (some ⟨p3, 0, none⟩) hs.length pc3) (e := .slice (some ⟨g3, 0, none⟩) ss.length gc3) (t := 25) (by simp)
                      go_wp2_with fail
                      refine (Passes_any (B := w8.heap.size) (sea := s') (Nat.le_refl _) (HKx.out.rsH (v := .slice (some ⟨ha, 0, none⟩) hs.length hcap) (hs := hs) (by simp)) (HKx.out.rsI (v := .slice (some ⟨sa, 0, none⟩) ss.length scap) (l := ss) (by simp))).mono ?_
                      rintro e w20 ⟨va, e1, la, rfl, hb, hpa, ho⟩
                      have HKs := Lib.hid ((HKx.out.grow hb).addR (r := rwH va la) HKx.out.o.2.2 ho)
                      have HPA := Lib.hid (And.intro hpa ho)
                      clear hb hpa ho HKx b0 b1 b2 o0 o1 o2
                      obtain ⟨o0, o1, o2⟩ := HKs.out.box3 (q := q23) (a := .int .i64 m) (b := .slice (some ⟨p3, 0, none⟩) hs.length pc3) (e := .slice (some ⟨g3, 0, none⟩) ss.length gc3) (t := 25) (by simp)
                      go_wp2_with fail
                      refine (Passes_any (B := w20.heap.size) (sea := s') (Nat.le_refl _) (HKs.out.rsH (v := .slice (some ⟨p3, 0, none⟩) hs.length pc3) (hs := hs) (by simp)) (HKs.out.rsI (v := .slice (some ⟨g3, 0, none⟩) ss.length gc3) (l := (ss.set c (s' : Int))) (by simp))).mono ?_
                      rintro e w21 ⟨vb, e2, lb, rfl, hb, hpb, ho⟩
                      obtain ⟨rfl, rfl, hla, hlb, hab⟩ := flood_pass HO.out HOW.out hcl HSC.out HSS.out HPA.out.1 hpb
                      have HKc := Lib.hid ((HKs.out.grow hb).addR (r := rwH vb lb) HKs.out.o.2.2 ho)
                      obtain ⟨al, lc, rfl⟩ : ∃ g cap, va = .slice (some ⟨g, 0, none⟩) la.length cap := form_pos (r := rwH va la) HPA.out.2 (show 0 < la.length by have := HLN.out; omega)
                      obtain ⟨bl, mc, rfl⟩ : ∃ g cap, vb = .slice (some ⟨g, 0, none⟩) lb.length cap := form_pos (r := rwH vb lb) ho (show 0 < lb.length by have := HLN.out; omega)
                      have HAB := Lib.hid (And.intro hla (And.intro hlb hab))
                      clear hb hpb ho HKs o0 o1 o2 HPA hla hlb hab
                      have hla1 : ((lb.length : Nat) : Int) = ((la.length : Nat) : Int) := by rw [HAB.out.1, HAB.out.2.1]
                      go_wp2_with fail
                      clear hla1
                      go_loopw [227] (fun i W => ∃ j : Nat, j ≤ la.length ∧ i = .int .i64 j ∧ Hid (Kept w S w.heap.size c' [rwH (.slice (some ⟨bl, 0, none⟩) lb.length mc) lb, rwH (.slice (some ⟨al, 0, none⟩) la.length lc) la, rwH (.slice (some ⟨p3, 0, none⟩) hs.length pc3) hs, rwI (.slice (some ⟨g3, 0, none⟩) ss.length gc3) (ss.set c (s' : Int)), rwH (.slice (some ⟨p, 0, none⟩) H.length pc) H, rwI (.slice (some ⟨f11, 0, none⟩) ss.length fc) ss, rwI (.slice (some ⟨ta, 0, none⟩) T.length tcap) T, rwI (.slice (some ⟨sa, 0, none⟩) ss.length scap) ss, rwH (.slice (some ⟨ha, 0, none⟩) hs.length hcap) hs] [(q23, Obj.cells #[.int .i64 m, .slice (some ⟨p3, 0, none⟩) hs.length pc3, .slice (some ⟨g3, 0, none⟩) ss.length gc3] 25 (0, 0)), (q14, Obj.cells #[.int .i64 x', .int .i64 y'] 54 (0, 0)), (q12, Obj.cells #[.int .i64 x, .int .i64 y] 54 (0, 0)), (q11, Obj.cells #[.int .i64 m, .slice (some ⟨p, 0, none⟩) H.length pc, .slice (some ⟨f11, 0, none⟩) ss.length fc] 25 (0, 0)), (q, Obj.cells #[.int .i64 m, .slice (some ⟨ha, 0, none⟩) hs.length hcap, .slice (some ⟨sa, 0, none⟩) ss.length scap] 25 (0, 0))] W)) (fun i _ => la.length - (intOf i).toNat)
                      case atStart => exact ⟨0, Nat.zero_le _, rfl, HKc⟩
                      case round =>
                        as_aux_lemma =>
                          clear HKc
                          obtain ⟨j, hj, rfl, HK⟩ := hrel
                          by_cases hlj : j < la.length
                          · have hjb : j < lb.length := by have h1 := HAB.out.1; have h2 := HAB.out.2.1; omega
                            obtain ⟨q1, q2⟩ := HK.out.cellH (g := al) (cap := lc) (l := la) (by simp) hlj
                            obtain ⟨q3, q4⟩ := HK.out.cellH (g := bl) (cap := mc) (l := lb) (by simp) hjb
                            have i1 := HAB.out.2.2 j (by have h1 := HAB.out.1; omega)
                            obtain ⟨⟨y1, y2⟩, hy⟩ : ∃ yj, yj = la.getD j (0, 0) := ⟨_, rfl⟩
                            obtain ⟨⟨z1, z2⟩, hz⟩ : ∃ zj, zj = lb.getD j (0, 0) := ⟨_, rfl⟩
                            rw [← hy] at q1 q2 i1
                            rw [← hz] at q3 q4 i1
                            dsimp only at q1 q2 q3 q4 i1
                            have HI := Lib.hid i1
                            have hj1 : (j : Int) < (la.length : Int) := by omega
                            have hj2 : (j : Int) < (lb.length : Int) := by omega
                            have hi5 : j < la.length := hlj
                            have hi3 : (j : Int) < 1000 := by have h2 := HAB.out.1; have h3 := HLN.out; omega
                            clear hy hz i1
                            go_upto_region 36 with (fail)
                            go_cut [274] from 230 to 274 (fun s274 wx => s274 = .bool false ∧ Hid (Kept w S w.heap.size c' [rwH (.slice (some ⟨bl, 0, none⟩) lb.length mc) lb, rwH (.slice (some ⟨al, 0, none⟩) la.length lc) la, rwH (.slice (some ⟨p3, 0, none⟩) hs.length pc3) hs, rwI (.slice (some ⟨g3, 0, none⟩) ss.length gc3) (ss.set c (s' : Int)), rwH (.slice (some ⟨p, 0, none⟩) H.length pc) H, rwI (.slice (some ⟨f11, 0, none⟩) ss.length fc) ss, rwI (.slice (some ⟨ta, 0, none⟩) T.length tcap) T, rwI (.slice (some ⟨sa, 0, none⟩) ss.length scap) ss, rwH (.slice (some ⟨ha, 0, none⟩) hs.length hcap) hs] [(q23, Obj.cells #[.int .i64 m, .slice (some ⟨p3, 0, none⟩) hs.length pc3, .slice (some ⟨g3, 0, none⟩) ss.length gc3] 25 (0, 0)), (q14, Obj.cells #[.int .i64 x', .int .i64 y'] 54 (0, 0)), (q12, Obj.cells #[.int .i64 x, .int .i64 y] 54 (0, 0)), (q11, Obj.cells #[.int .i64 m, .slice (some ⟨p, 0, none⟩) H.length pc, .slice (some ⟨f11, 0, none⟩) ss.length fc] 25 (0, 0)), (q, Obj.cells #[.int .i64 m, .slice (some ⟨ha, 0, none⟩) hs.length hcap, .slice (some ⟨sa, 0, none⟩) ss.length scap] 25 (0, 0))] wx))
                            case first =>
                              as_aux_lemma =>
                                by_cases hjc : j = c
                                · have d1 : ((j : Int) != (c : Int)) = false := by simp [hjc]
                                  clear hjc
                                  go_quiet (fail)
                                  go_wp2_with fail
                                  go_meet
                                  case rel => exact ⟨rfl, Lib.hid (HK.out.grow (below_drewN (Below.refl wr.heap.size wr) nq))⟩
                                · have d1 : ((j : Int) != (c : Int)) = true := by rw [bne_iff_ne]; omega
                                  by_cases hy1 : y1 = -1
                                  · have d2 : (y1 != -1) = false := by simp [hy1]
                                    clear hy1 hjc
                                    go_quiet (fail)
                                    go_wp2_with fail
                                    go_meet
                                    case rel => exact ⟨rfl, Lib.hid (HK.out.grow (below_drewN (Below.refl wr.heap.size wr) nq))⟩
                                  · have d2 : (y1 != -1) = true := by rw [bne_iff_ne]; exact hy1
                                    by_cases hz1 : z1 = -1
                                    · have d3 : (z1 != -1) = false := by simp [hz1]
                                      clear hy1 hjc hz1
                                      go_quiet (fail)
                                      go_wp2_with fail
                                      go_meet
                                      case rel => exact ⟨rfl, Lib.hid (HK.out.grow (below_drewN (Below.refl wr.heap.size wr) nq))⟩
                                    · have d3 : (z1 != -1) = true := by rw [bne_iff_ne]; exact hz1
                                      obtain ⟨g1, g2⟩ := HI.out hjc hy1 hz1
                                      have d4 : decide (y1 < z1) = false := by rw [decide_eq_false_iff_not]; omega
                                      have d5 : decide (y2 < z2) = false := by rw [decide_eq_false_iff_not]; omega
                                      clear hy1 hjc hz1 g1 g2
                                      go_quiet (fail)
                                      go_wp2_with fail
                                      go_meet
                                      case rel => exact ⟨rfl, Lib.hid (HK.out.grow (below_drewN (Below.refl wr.heap.size wr) nq))⟩
                            case rest =>
                              as_aux_lemma =>
                                obtain ⟨rfl, HK3⟩ := hcut
                                clear HK q1 q2 q3 q4
                                go_wp2
                                go_roundw
                                case rel => exact ⟨j + 1, by omega, by go_num, HK3⟩
                                case measure => simp [intOf]; omega
                          · have hjl : j = la.length := by omega
                            subst hjl
                            go_wp2
                            go_roundw
                            case rel => exact ⟨s' + 1, by omega, by omega, by go_num, Lib.hid (HK.out.less (fun r h => .tail _ (.tail _ (.tail _ (.tail _ h)))) (fun p h => .tail _ h))⟩
                            case measure => simp [intOf]; omega
                    · have d1 : (ce != 0) = true := by rw [bne_iff_ne]; exact hc0
                      clear hce hc0
                      go_wp2
                      go_roundw
                      case rel => exact ⟨s' + 1, by omega, by omega, by go_num, Lib.hid (HKx.out.less (fun r h => .tail _ (.tail _ h)) (fun p h => .tail _ h))⟩
                      case measure => simp [intOf]; omega
                  · have d1 : (sc != 0) = true := by rw [bne_iff_ne]; exact h0
                    clear hsc h0
                    go_wp2
                    go_roundw
                    case rel => exact ⟨s' + 1, by omega, by omega, by go_num, Lib.hid (HKw.out.less (fun r h => .tail _ (.tail _ h)) (fun p h => .tail _ h))⟩
                    case measure => simp [intOf]; omega
                · have hse : ¬ ((s' : Int) ≤ 2) := by omega
                  clear hs2 hs1 hs3
                  obtain ⟨b0, b1, b2⟩ := HK.out.box3 (q := q) (a := .int .i64 m) (b := .slice (some ⟨ha, 0, none⟩) hs.length hcap) (e := .slice (some ⟨sa, 0, none⟩) ss.length scap) (t := 25) (by simp)
                  go_wp2_with fail
                  refine (Ridge_any (B := wr.heap.size) (Nat.le_refl _) (HK.out.rsH (v := .slice (some ⟨ha, 0, none⟩) hs.length hcap) (hs := hs) (by simp)) (HK.out.rsI (v := .slice (some ⟨sa, 0, none⟩) ss.length scap) (l := ss) (by simp))).mono ?_
                  rintro e w30 ⟨v29, xr, yr, er3, L, rfl, hb, hans, ho, hn0, hn1⟩
                  obtain ⟨rfl, rfl, rfl⟩ := HSD.out.unique hans
                  have HKg := Lib.hid ((HK.out.grow hb).addR (r := rwN v29 L) HK.out.o.2.2 ho)
                  obtain ⟨a29, c29, rfl⟩ : ∃ a cap, v29 = .slice a L.length cap := row_form (r := rwN v29 L) ho
                  have HRI := Lib.hid hn1
                  clear hb hans ho hn0 hn1 HK b0 b1 b2 hse
                  have AW : ∀ W : World, Below w.heap.size w W → True := fun _ _ => trivial
                  clear AW
                  rcases saddle_errs HO.out HSD.out with h0 | h7
                  · subst h0
                    obtain ⟨b0, b1, b2⟩ := HKg.out.box3 (q := q) (a := .int .i64 m) (b := .slice (some ⟨ha, 0, none⟩) hs.length hcap) (e := .slice (some ⟨sa, 0, none⟩) ss.length scap) (t := 25) (by simp)
                    go_wp2_with fail
                    refine (lclone_any (B := w30.heap.size) (wd := m) (Nat.le_refl _) (HKg.out.rsH (v := .slice (some ⟨ha, 0, none⟩) hs.length hcap) (hs := hs) (by simp)) (HKg.out.rsI (v := .slice (some ⟨sa, 0, none⟩) ss.length scap) (l := ss) (by simp)) (by have := HLN.out; omega) (by have := HLN.out; omega)).mono ?_
                    rintro e w5 ⟨hv3, sv3, rfl, o1, o2, hb⟩
                    obtain ⟨p3, pc3, rfl⟩ : ∃ g cap, hv3 = .slice (some ⟨g, 0, none⟩) hs.length cap := form_pos (r := ⟨54, 2, hv3, hs.length, spans hs⟩) o1 (show 0 < hs.length by have := HLN.out; omega)
                    obtain ⟨g3, gc3, rfl⟩ : ∃ g cap, sv3 = .slice (some ⟨g, 0, none⟩) ss.length cap := form_pos (r := rwI sv3 ss) o2 (show 0 < ss.length by have := HLN.out; omega)
                    have HF0 := Lib.hid (FiS.of HKg.out (wd := m) hb o1 o2)
                    clear hb o1 o2 b0 b1 b2
                    go_upto_region 43 with (fail)
                    obtain ⟨q30, hqe⟩ : ∃ q, q = w5.heap.size := ⟨_, rfl⟩
                    simp only [← hqe] at HF0 ⊢
                    generalize w5.alloc (.cells #[.int .i64 m, .slice (some ⟨p3, 0, none⟩) hs.length pc3, .slice (some ⟨g3, 0, none⟩) ss.length gc3] 25) = w6 at HF0 ⊢
                    clear hqe
                    go_wp2_with fail
                    go_loopw [293] (fun i W => ∃ (j : Nat) (Hw : List (Int × Int)), j ≤ L.length ∧ i = .int .i64 j ∧ Hid (WallTo hs L j Hw) ∧ Hid (FiS w30 w.heap.size c' p3 pc3 q30 hs.length m (.slice (some ⟨g3, 0, none⟩) ss.length gc3) ss Hw W)) (fun i _ => L.length - (intOf i).toNat)
                    case atStart => exact ⟨0, hs, Nat.zero_le _, rfl, Lib.hid ⟨rfl, fun c hc h => by simp at h, fun c hc _ => rfl⟩, HF0⟩
                    case round =>
                      as_aux_lemma =>
                        clear HF0
                        obtain ⟨j, Hw, hj, rfl, HW, HF⟩ := hrel
                        by_cases hlj : j < L.length
                        · have HKf := Lib.hid (HKg.out.fine HF.out)
                          obtain ⟨g29, cc, e29, -⟩ := row_at (r := rwN (.slice a29 L.length c29) L) (HKf.out.r _ (by simp)) (show 0 < L.length from by omega)
                          obtain rfl : a29 = some ⟨g29, 0, none⟩ := by
                            have h := e29
                            simp only [rwN, Value.slice.injEq] at h
                            exact h.1
                          clear e29
                          have q0 := HKf.out.cellN (g := g29) (cap := c29) (l := L) (by simp) hlj
                          obtain ⟨cj, hcj⟩ : ∃ cj, cj = L.getD j 0 := ⟨_, rfl⟩
                          have hcl : cj < hs.length := by
                            have hm : cj ∈ L := by rw [hcj, List.getD_eq_getElem?_getD, List.getElem?_eq_getElem hlj]; exact List.getElem_mem hlj
                            have h1 := ((HRI.out (by first | rfl | trivial)).cells cj hm).1.1
                            have h2 : cj < ss.length := h1
                            have := HLN.out; omega
                          rw [← hcj] at q0
                          have HCJ := Lib.hid hcj
                          obtain ⟨v0, v1, v2⟩ := HF.out.box
                          have hLl : L.length ≤ ss.length := by
                            have h1 := (HRI.out (by first | rfl | trivial)).up
                            have h2 := len_le (f := id) (L := L) (L' := List.range ss.length) (h1.imp (fun h => Nat.ne_of_lt h)) (fun _ _ _ _ h => h) (fun a ha => List.mem_range.2 ((HRI.out (by first | rfl | trivial)).cells a ha).1.1)
                            simpa using h2
                          have hi1 : (j : Int) < (L.length : Int) := by omega
                          have hi3 : (j : Int) < 1000 := by have h3 := HLN.out; omega
                          have z1 : decide ((cj : Int) < 0) = false := by rw [decide_eq_false_iff_not]; omega
                          have z2 : decide ((hs.length : Int) ≤ (cj : Int)) = false := by rw [decide_eq_false_iff_not]; omega
                          have hi4 : (cj : Int) < (hs.length : Int) := by omega
                          clear hcj hLl
                          go_upto_region 48 with (fail)
                          have HF3 := Lib.hid (HF.out.grow (Below.refl _ wr).drew)
                          have hC : (fun W => W.cell? ⟨q30, 1, none⟩ = some (.slice (some ⟨p3, 0, none⟩) hs.length pc3)) wr.drew := HF3.out.box.2.1
                          clear q0 v0 v1 v2 HF HKf
                          generalize hW0 : wr.drew = W1 at HF3 hC
                          refine Lim.regC' (fun W => W.cell? ⟨q30, 1, none⟩ = some (.slice (some ⟨p3, 0, none⟩) hs.length pc3)) [] #[false, false, false, false, false, false] (by kernel_rfl) rfl ?_
                          rw [hW0]; clear hW0
                          refine Lim.stepR 0 (fun _ => trivial) rfl (by kernel_rfl) (fun _ _ _ _ h => h) hC rfl ?_; apply Exists.intro; refine ⟨?_, ?_⟩
                          · rintro w r1; go_simp; try with_reducible rfl
                          simp only [Act.put, List.setIfInBounds_toArray, List.set_cons_succ, List.set_cons_zero]
                          refine Lim.stepR 1 (fun _ => trivial) rfl (by kernel_rfl) (fun _ _ _ _ h => h) hC rfl ?_; apply Exists.intro; refine ⟨?_, ?_⟩
                          · rintro w r1; go_simp; try with_reducible rfl
                          simp only [Act.put, List.setIfInBounds_toArray, List.set_cons_succ, List.set_cons_zero]
                          refine Lim.stepR 2 (fun _ => trivial) rfl (by kernel_rfl) (fun _ _ _ _ h => h) hC rfl ?_; apply Exists.intro; refine ⟨?_, ?_⟩
                          · rintro w r1; go_simp; try with_reducible rfl
                          simp only [Act.put, List.setIfInBounds_toArray, List.set_cons_succ, List.set_cons_zero]
                          refine Lim.stepE 3 (fun _ => trivial) rfl (by kernel_rfl) rfl (fun K hK => ?_)   -- E call
                          go_simp
                          refine ⟨rfl, (callsIn_wide.2 (span_any 5000 5000 _)).mono ?_⟩
                          rintro e W4 ⟨rfl, hb4⟩
                          have HF4 := Lib.hid (HF3.out.grow hb4)
                          have hC4 : (fun W => W.cell? ⟨q30, 1, none⟩ = some (.slice (some ⟨p3, 0, none⟩) hs.length pc3)) W4 := cell_on hb4 hC
                          refine hK _ _ hC4 ?_
                          clear hb4 HF3 hC
                          simp only [Act.put, List.setIfInBounds_toArray, List.set_cons_succ, List.set_cons_zero]
                          refine Lim.stepR 4 (fun _ => trivial) rfl (by kernel_rfl) (fun _ _ _ _ h => h) hC4 rfl ?_; apply Exists.intro; refine ⟨?_, ?_⟩
                          · rintro w r1; go_simp; try with_reducible rfl
                          simp only [Act.put, List.setIfInBounds_toArray, List.set_cons_succ, List.set_cons_zero]
                          refine Lim.stepE 5 (fun _ => trivial) rfl (by kernel_rfl) rfl (fun K hK => ?_)   -- E store
                          obtain ⟨⟨k0, k1⟩, g0, g1⟩ := span_at HF4.out.h hcl
                          have k1' : (W4.setCell ⟨p3, cj * 2, none⟩ (.int .i64 5000)).cell? ⟨p3, cj * 2 + 1, none⟩ = some _ := (setCell_off _ _ (by omega)).trans k1
                          have g1' : (W4.setCell ⟨p3, cj * 2, none⟩ (.int .i64 5000)).frozen? ⟨p3, cj * 2 + 1, none⟩ = false := (World.frozen?_setCell ..).trans g1
                          have HF5 := Lib.hid (HF4.out.put cj 5000 5000)
                          have hC5 : (fun W => W.cell? ⟨q30, 1, none⟩ = some (.slice (some ⟨p3, 0, none⟩) hs.length pc3)) ((W4.setCell ⟨p3, cj * 2, none⟩ (.int .i64 5000)).setCell ⟨p3, cj * 2 + 1, none⟩ (.int .i64 5000)) := HF5.out.box.2.1
                          clear k1 g1
                          go_simp
                          refine hK _ _ hC5 ?_
                          simp only [Act.put, List.setIfInBounds_toArray, List.set_cons_succ, List.set_cons_zero]
                          refine Lim.stepD (by kernel_rfl) ?_
                          clear hC5 hC4 HF4 k0 k1' g0 g1'
                          generalize (W4.setCell ⟨p3, cj * 2, none⟩ (.int .i64 5000)).setCell ⟨p3, cj * 2 + 1, none⟩ (.int .i64 5000) = w7 at HF5 ⊢
                          go_wp2
                          go_roundw
                          case rel => exact ⟨j + 1, _, by omega, by go_num, Lib.hid (by have h := HW.out.put hlj; rw [← HCJ.out] at h; exact h), HF5⟩
                          case measure => simp [intOf]; omega
                        · have hjl : j = L.length := by omega
                          subst hjl
                          have hwl := HW.out.done
                          have HWL := Lib.hid hwl
                          have hHl : Hw.length = hs.length := hwl.len
                          have HOW : Hid (openErr (m : Int) Hw ss = 0) := Lib.hid (re_open HO.out hHl (fun k hk => by
                            by_cases hm : k ∈ L
                            · rw [hwl.on k hk hm]; dsimp only; omega
                            · rw [hwl.off k hk hm]; exact goodSpan (openErr_zero HO.out).2.2.1 hk))
                          have HKv : Hid (Kept w S w.heap.size c' [rwH (.slice (some ⟨p3, 0, none⟩) Hw.length pc3) Hw, rwI (.slice (some ⟨g3, 0, none⟩) ss.length gc3) ss, rwN (.slice a29 L.length c29) L, rwH (.slice (some ⟨p, 0, none⟩) H.length pc) H, rwI (.slice (some ⟨f11, 0, none⟩) ss.length fc) ss, rwI (.slice (some ⟨ta, 0, none⟩) T.length tcap) T, rwI (.slice (some ⟨sa, 0, none⟩) ss.length scap) ss, rwH (.slice (some ⟨ha, 0, none⟩) hs.length hcap) hs] [(q30, Obj.cells #[.int .i64 m, .slice (some ⟨p3, 0, none⟩) Hw.length pc3, .slice (some ⟨g3, 0, none⟩) ss.length gc3] 25 (0, 0)), (q14, Obj.cells #[.int .i64 x', .int .i64 y'] 54 (0, 0)), (q12, Obj.cells #[.int .i64 x, .int .i64 y] 54 (0, 0)), (q11, Obj.cells #[.int .i64 m, .slice (some ⟨p, 0, none⟩) H.length pc, .slice (some ⟨f11, 0, none⟩) ss.length fc] 25 (0, 0)), (q, Obj.cells #[.int .i64 m, .slice (some ⟨ha, 0, none⟩) hs.length hcap, .slice (some ⟨sa, 0, none⟩) ss.length scap] 25 (0, 0))] wr) := Lib.hid (by
                            have h := HF.out
                            rw [← hHl] at h
                            exact HKg.out.fined h)
                          clear hwl hHl HF HW
                          obtain ⟨o0, o1, o2⟩ := HKv.out.box3 (q := q30) (a := .int .i64 m) (b := .slice (some ⟨p3, 0, none⟩) Hw.length pc3) (e := .slice (some ⟨g3, 0, none⟩) ss.length gc3) (t := 25) (by simp)
                          go_wp2_with fail
                          refine (Saddle_any (B := wr.heap.size) (Nat.le_refl _) (HKv.out.rsH (v := .slice (some ⟨p3, 0, none⟩) Hw.length pc3) (hs := Hw) (by simp)) (HKv.out.rsI (v := .slice (some ⟨g3, 0, none⟩) ss.length gc3) (l := ss) (by simp))).mono ?_
                          rintro e w40 ⟨xw, yw, er4, rfl, hb, hans⟩
                          obtain ⟨rfl, rfl, rfl⟩ := wall_sad HO.out HOW.out HWL.out (fun k hk => by have h := HM.out.cells.h k (by have h1 := HM.out.cells.l1; omega); omega) (HRI.out (by first | rfl | trivial)).parts HSD.out hans
                          have HKy := Lib.hid (HKv.out.grow hb)
                          have hx14 := (HKy.out.x (q14, Obj.cells #[.int .i64 x', .int .i64 y'] 54 (0, 0)) (by simp)).2
                          have hx15 := (HKy.out.x (q14, Obj.cells #[.int .i64 x', .int .i64 y'] 54 (0, 0)) (by simp)).1
                          obtain ⟨⟨e0, e1⟩, g0, g1⟩ := two_cells hx14
                          have hz : ((w40.setCell ⟨q14, 0, none⟩ (.int .i64 5000)).setCell ⟨q14, 1, none⟩ (.int .i64 5000)).heap[q14]? = some (.cells #[.int .i64 5000, .int .i64 5000] 54 (0, 0)) := by
                            rw [heap_setCell_self _ (heap_setCell_self _ hx14)]; rfl
                          have hbz : Below w.heap.size w ((w40.setCell ⟨q14, 0, none⟩ (.int .i64 5000)).setCell ⟨q14, 1, none⟩ (.int .i64 5000)) := by
                            have ho := HKy.out.o
                            have hs' : S ≤ q14 := hx15
                            exact (HKy.out.b.setCell (p := ⟨q14, 0, none⟩) (by show w.heap.size ≤ q14; omega) _).setCell (p := ⟨q14, 1, none⟩) (by show w.heap.size ≤ q14; omega) _
                          have HZ := Lib.hid (And.intro hz hbz)
                          clear hb hans HKv o0 o1 o2 hx14 hx15 hz hbz
                          go_upto_region 51 with (fail)
                          clear e0 e1 g0 g1
                          generalize (w40.setCell ⟨q14, 0, none⟩ (.int .i64 5000)).setCell ⟨q14, 1, none⟩ (.int .i64 5000) = w41 at HZ ⊢
                          have hC : (fun W => W.cell? ⟨q14, 0, none⟩ = some (.int .i64 5000) ∧ W.cell? ⟨q14, 1, none⟩ = some (.int .i64 5000)) w41.drew := (two_cells HZ.out.1).1
                          have HB1 := Lib.hid (HZ.out.2.trans ((Below.refl w41.heap.size w41).drew.mono HZ.out.2.size))
                          generalize hW0 : w41.drew = W1 at HB1 hC
                          refine Lim.regC' (fun W => W.cell? ⟨q14, 0, none⟩ = some (.int .i64 5000) ∧ W.cell? ⟨q14, 1, none⟩ = some (.int .i64 5000)) [] #[false, false, false, false, false, false, false, false, false, false, false] (by kernel_rfl) rfl ?_
                          rw [hW0]; clear hW0
                          refine Lim.stepR 0 (fun _ => trivial) rfl (by kernel_rfl) (fun _ _ _ _ h => h) hC rfl ?_; apply Exists.intro; refine ⟨?_, ?_⟩
                          · rintro w ⟨r1, r2⟩; go_simp; try with_reducible rfl
                          simp only [Act.put, List.setIfInBounds_toArray, List.set_cons_succ, List.set_cons_zero]
                          refine Lim.stepR 1 (fun _ => trivial) rfl (by kernel_rfl) (fun _ _ _ _ h => h) hC rfl ?_; apply Exists.intro; refine ⟨?_, ?_⟩
                          · rintro w ⟨r1, r2⟩; go_simp; try with_reducible rfl
                          simp only [Act.put, List.setIfInBounds_toArray, List.set_cons_succ, List.set_cons_zero]
                          refine Lim.stepR 2 (fun _ => trivial) rfl (by kernel_rfl) (fun _ _ _ _ h => h) hC rfl ?_; apply Exists.intro; refine ⟨?_, ?_⟩
                          · rintro w ⟨r1, r2⟩; go_simp; try with_reducible rfl
                          simp only [Act.put, List.setIfInBounds_toArray, List.set_cons_succ, List.set_cons_zero]
                          refine Lim.stepR 3 (fun _ => trivial) rfl (by kernel_rfl) (fun _ _ _ _ h => h) hC rfl ?_; apply Exists.intro; refine ⟨?_, ?_⟩
                          · rintro w ⟨r1, r2⟩; go_simp; try with_reducible rfl
                          simp only [Act.put, List.setIfInBounds_toArray, List.set_cons_succ, List.set_cons_zero]
                          refine Lim.stepE 4 (fun _ => trivial) rfl (by kernel_rfl) rfl (fun K hK => ?_)   -- E call
                          go_simp
                          refine ⟨rfl, (callsIn_wide.2 (span_any 5000 5000 _)).mono ?_⟩
                          rintro e W4 ⟨rfl, hb4⟩
                          have HB2 := Lib.hid (HB1.out.trans (hb4.mono HB1.out.size))
                          have hC4 : (fun W => W.cell? ⟨q14, 0, none⟩ = some (.int .i64 5000) ∧ W.cell? ⟨q14, 1, none⟩ = some (.int .i64 5000)) W4 := ⟨cell_on hb4 hC.1, cell_on hb4 hC.2⟩
                          refine hK _ _ hC4 ?_
                          clear hb4 HB1 hC
                          simp only [Act.put, List.setIfInBounds_toArray, List.set_cons_succ, List.set_cons_zero]
                          refine Lim.stepR 5 (fun _ => trivial) rfl (by kernel_rfl) (fun _ _ _ _ h => h) hC4 rfl ?_; apply Exists.intro; refine ⟨?_, ?_⟩
                          · rintro w ⟨r1, r2⟩; go_simp; try with_reducible rfl
                          simp only [Act.put, List.setIfInBounds_toArray, List.set_cons_succ, List.set_cons_zero]
                          refine Lim.stepR 6 (fun _ => trivial) rfl (by kernel_rfl) (fun _ _ _ _ h => h) hC4 rfl ?_; apply Exists.intro; refine ⟨?_, ?_⟩
                          · rintro w ⟨r1, r2⟩; go_simp; try with_reducible rfl
                          simp only [Act.put, List.setIfInBounds_toArray, List.set_cons_succ, List.set_cons_zero]
                          refine Lim.stepR 7 (fun _ => trivial) rfl (by kernel_rfl) (fun _ _ _ _ h => h) hC4 rfl ?_; apply Exists.intro; refine ⟨?_, ?_⟩
                          · rintro w ⟨r1, r2⟩; go_simp; try with_reducible rfl
                          simp only [Act.put, List.setIfInBounds_toArray, List.set_cons_succ, List.set_cons_zero]
                          refine Lim.stepE 8 (fun _ => trivial) rfl (by kernel_rfl) rfl (fun K hK => ?_)   -- E call
                          go_simp
                          refine ⟨rfl, (callsIn_wide.2 (awake_any _)).mono ?_⟩
                          rintro e W5 ⟨rfl, hb5⟩
                          have HB3 := Lib.hid (HB2.out.trans (hb5.mono HB2.out.size))
                          have hC5 : (fun W => W.cell? ⟨q14, 0, none⟩ = some (.int .i64 5000) ∧ W.cell? ⟨q14, 1, none⟩ = some (.int .i64 5000)) W5 := ⟨cell_on hb5 hC4.1, cell_on hb5 hC4.2⟩
                          refine hK _ _ hC5 ?_
                          clear hb5 HB2 hC4
                          simp only [Act.put, List.setIfInBounds_toArray, List.set_cons_succ, List.set_cons_zero]
                          refine Lim.stepR 9 (fun _ => trivial) rfl (by kernel_rfl) (fun _ _ _ _ h => h) hC5 rfl ?_; apply Exists.intro; refine ⟨?_, ?_⟩
                          · rintro w ⟨r1, r2⟩; go_simp; try with_reducible rfl
                          simp only [Act.put, List.setIfInBounds_toArray, List.set_cons_succ, List.set_cons_zero]
                          refine Lim.stepR 10 (fun _ => trivial) rfl (by kernel_rfl) (fun _ _ _ _ h => h) hC5 rfl ?_; apply Exists.intro; refine ⟨?_, ?_⟩
                          · rintro w ⟨r1, r2⟩; go_simp; try with_reducible rfl
                          simp only [Act.put, List.setIfInBounds_toArray, List.set_cons_succ, List.set_cons_zero]
                          refine Lim.stepD (by kernel_rfl) ?_
                          go_wp2
                          go_ret
                          exact ⟨rfl, HB3.out⟩
                  · subst h7
                    go_wp2_with fail
                    refine (awake_any _).mono ?_
                    rintro e wz ⟨rfl, hb⟩
                    have HB := Lib.hid (HKg.out.b.trans (hb.mono HKg.out.b.size))
                    clear hb
                    go_wp2
                    go_ret
                    exact ⟨rfl, HB.out⟩
end Go.Proofs.Ytdgibmgifgdpbaa
