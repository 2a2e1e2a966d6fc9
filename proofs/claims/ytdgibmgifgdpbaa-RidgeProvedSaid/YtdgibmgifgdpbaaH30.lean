/-
  Parts of the proof, in the order in which they build: Proved.
-/
import Derived.Laws.OwnMore
import Derived.Deep.CutRange
import Derived.BigQuiet
import Derived.Test.YtdgibmgifgdpbaaH16
import Derived.Test.YtdgibmgifgdpbaaH29
import Derived.Test.YtdgibmgifgdpbaaH7
import Derived.Test.YtdgibmgifgdpbaaH14
import Derived.Test.YtdgibmgifgdpbaaG16
set_option linter.unusedVariables false
set_option linter.unusedSimpArgs false
namespace Go.Proofs.Ytdgibmgifgdpbaa
open Go.RowKit Go.Shelf
open Lim

set_option maxRecDepth 20000 in
set_option maxHeartbeats 8000000 in
theorem proved_any {B : Nat} {nv tv0 : Value} {ns ts : List Int} {w : World} (hB : B ≤ w.heap.size) (hn : RS B w nv ns.length (u8s ns)) (hnu : ∀ x ∈ ns, 0 ≤ x ∧ x ≤ 255) (ht : RS B w tv0 ts.length (u8s ts)) (htu : ∀ x ∈ ts, 0 ≤ x ∧ x ≤ 255) :
    Calls Try.prog 11 #[nv, tv0] w fun e w' => e = .returned (.bool true) ∧ Below w.heap.size w w' := by
  have HA := Lib.hid (And.intro hB (And.intro hn (And.intro hnu (And.intro ht htu))))
  obtain ⟨na, nc, rfl, -⟩ := hn
  obtain ⟨ua, uc, rfl, -⟩ := ht
  clear hB hnu htu
  go_enter Try.func11, Try.ntmps11
  go_wp2_with fail
  refine (of_dk HA.out.1 HA.out.2.1 HA.out.2.2.1).mono ?_
  rintro e w1 ⟨rfl, hd0, hb1, hs1⟩
  have HD0 := Lib.hid (And.intro hd0 (And.intro hb1 hs1))
  clear hd0 hb1 hs1
  go_wp2_with fail
  refine (of_dk (B := B) (by have h1 := HA.out.1; have h2 := HD0.out.2.1.size; omega) (HA.out.2.2.2.1.below (HD0.out.2.1.mono HA.out.1)) HA.out.2.2.2.2).mono ?_
  rintro e w2 ⟨rfl, hd1, hb2, hs2⟩
  have HD1 := Lib.hid (And.intro hd1 (And.intro hb2 hs2))
  clear hd1 hb2 hs2
  go_wp2_with fail
  refine (made_any (d := w.heap.size) (c0 := 0) ((HD0.out.1.below HD1.out.2.1).deck (n := 0) (by omega)) (by omega) (by omega) (by omega)).mono ?_
  rintro e w3 ⟨m, rows, hv, sv, tv, hs, ss, T, c', rfl, hM, -, -, hgr, o1, o2, o3⟩
  have HM := Lib.hid hM
  have HO : Hid (openErr (m : Int) hs ss = 0) := Lib.hid (hM.right (by omega) (by omega))
  have HLN := Lib.hid (hM.lens (by omega) (by omega))
  obtain ⟨d1, hd1e⟩ : ∃ d1, d1 = w1.heap.size := ⟨_, rfl⟩
  obtain ⟨S, hSe⟩ : ∃ S, S = w2.heap.size := ⟨_, rfl⟩
  have HK0 : Hid (Kept w S d1 0 [rwI tv T, rwI sv ss, rwH hv hs] [] w3) := Lib.hid (by
    have h0 := HA.out.1
    have h1 := HD0.out.2.1.size
    have h2 := HD0.out.2.2
    have h3 := HD1.out.2.2
    have h4 := hgr.size
    rw [hd1e, hSe]
    refine ⟨below_grown (HD0.out.2.1.trans (HD1.out.2.1.mono h1)) hgr (by omega) (fun r e => by cases e; exact Nat.le_refl _), ⟨h1, by omega, h4⟩, (HD1.out.1.other (HA.out.2.2.2.1.below ((HD0.out.2.1.trans (HD1.out.2.1.mono h1)).mono h0)) h0 (by omega) (by omega) hgr).deck (n := 0) (by omega), ?_, fun p hp => by cases hp⟩
    intro r hr
    simp only [List.mem_cons, List.not_mem_nil, or_false] at hr
    rcases hr with rfl | rfl | rfl
    · exact o3
    · exact o2
    · exact o1)
  obtain ⟨ha, hcap, rfl⟩ : ∃ g cap, hv = .slice (some ⟨g, 0, none⟩) hs.length cap := form_pos (r := rwH hv hs) o1 (show 0 < hs.length by have := HLN.out; omega)
  obtain ⟨sa, scap, rfl⟩ : ∃ g cap, sv = .slice (some ⟨g, 0, none⟩) ss.length cap := form_pos (r := rwI sv ss) o2 (show 0 < ss.length by have := HLN.out; omega)
  obtain ⟨ta, tcap, rfl⟩ : ∃ g cap, tv = .slice (some ⟨g, 0, none⟩) T.length cap := form_pos (r := rwI tv T) o3 (show 0 < T.length by have := HLN.out; omega)
  simp only [← hd1e]
  clear hM hgr o1 o2 o3 hd1e hSe HD0 HD1 HA
  obtain ⟨i0, hi, hz0, hz1, hz2⟩ := info_parts Try.infoInt
  have HIN := Lib.hid (And.intro hi (And.intro hz0 (And.intro hz1 hz2)))
  clear hi hz0 hz1 hz2
  go_wp2_with fail
  have HK1 := Lib.hid (HK0.out.lay (.cells #[.int .i64 m, .slice (some ⟨ha, 0, none⟩) hs.length hcap, .slice (some ⟨sa, 0, none⟩) ss.length scap] 25))
  obtain ⟨q, hqe⟩ : ∃ q, q = w3.heap.size := ⟨_, rfl⟩
  simp only [← hqe] at HK1 ⊢
  generalize w3.alloc (.cells #[.int .i64 m, .slice (some ⟨ha, 0, none⟩) hs.length hcap, .slice (some ⟨sa, 0, none⟩) ss.length scap] 25) = w4 at HK1 ⊢
  clear HK0 hqe
  obtain ⟨b0, b1, b2⟩ := HK1.out.box3 (q := q) (a := .int .i64 m) (b := .slice (some ⟨ha, 0, none⟩) hs.length hcap) (e := .slice (some ⟨sa, 0, none⟩) ss.length scap) (t := 25) (by simp)
  refine (Saddle_any (B := w4.heap.size) (Nat.le_refl _) (HK1.out.rsH (v := .slice (some ⟨ha, 0, none⟩) hs.length hcap) (hs := hs) (by simp)) (HK1.out.rsI (v := .slice (some ⟨sa, 0, none⟩) ss.length scap) (l := ss) (by simp))).mono ?_
  rintro e w5 ⟨x, y, er, rfl, hb, hans⟩
  have HSD := Lib.hid hans
  have HKa := Lib.hid (HK1.out.grow hb)
  clear hb hans HK1 b0 b1 b2
  go_upto_region 4 with (fail)
  have HKb := Lib.hid (HKa.out.lay (.cells #[.int .i64 x, .int .i64 y] 54))
  obtain ⟨q9, hqe⟩ : ∃ q, q = w5.heap.size := ⟨_, rfl⟩
  simp only [← hqe] at HKb ⊢
  generalize w5.alloc (.cells #[.int .i64 x, .int .i64 y] 54) = w6 at HKb ⊢
  clear HKa hqe
  obtain ⟨b0, b1, b2⟩ := HKb.out.box3 (q := q) (a := .int .i64 m) (b := .slice (some ⟨ha, 0, none⟩) hs.length hcap) (e := .slice (some ⟨sa, 0, none⟩) ss.length scap) (t := 25) (by simp)
  go_wp2_with fail
  refine (Crossing_any (B := w6.heap.size) (Nat.le_refl _) (HKb.out.rsH (v := .slice (some ⟨ha, 0, none⟩) hs.length hcap) (hs := hs) (by simp)) (HKb.out.rsI (v := .slice (some ⟨sa, 0, none⟩) ss.length scap) (l := ss) (by simp))).mono ?_
  rintro e w7 ⟨v11, x', y', er', rfl, hb, hans, hn0, hn1⟩
  obtain ⟨rfl, rfl, rfl⟩ := HSD.out.unique hans
  rcases saddle_errs HO.out HSD.out with h0 | h7
  · subst h0
    obtain ⟨LW, hway, how⟩ := hn1 rfl
    have HKc := Lib.hid ((HKb.out.grow hb).addR (r := rwN v11 LW) HKb.out.o.2.2 how)
    obtain ⟨a11, c11, rfl⟩ : ∃ a cap, v11 = .slice a LW.length cap := row_form (r := rwN v11 LW) how
    have hlw : LW.length ≤ 100 := by have := prove_short hway.once (n := ss.length) (fun c hc => (hway.cells c hc).1.1); have := HLN.out; omega
    have HWY := Lib.hid (And.intro hway hlw)
    clear hb hans hn0 hn1 hway how hlw HKb b0 b1 b2
    obtain ⟨b0, b1, b2⟩ := HKc.out.box3 (q := q) (a := .int .i64 m) (b := .slice (some ⟨ha, 0, none⟩) hs.length hcap) (e := .slice (some ⟨sa, 0, none⟩) ss.length scap) (t := 25) (by simp)
    go_wp2_with fail
    refine (Ridge_any (B := w7.heap.size) (Nat.le_refl _) (HKc.out.rsH (v := .slice (some ⟨ha, 0, none⟩) hs.length hcap) (hs := hs) (by simp)) (HKc.out.rsI (v := .slice (some ⟨sa, 0, none⟩) ss.length scap) (l := ss) (by simp))).mono ?_
    rintro e w8 ⟨v13, x', y', er', L, rfl, hb, hans, ho, hn0, hn1⟩
    obtain ⟨rfl, rfl, rfl⟩ := HSD.out.unique hans
    have HKd := Lib.hid ((HKc.out.grow hb).addR (r := rwN v13 L) HKc.out.o.2.2 ho)
    obtain ⟨a13, c13, rfl⟩ : ∃ a cap, v13 = .slice a L.length cap := row_form (r := rwN v13 L) ho
    have hri := hn1 rfl
    have hll : L.length ≤ 100 := by have := RInv.short hri; have h2 := HLN.out; show L.length ≤ 100; unfold Gd.n at this; dsimp only at this; omega
    have HRI := Lib.hid (And.intro hri hll)
    clear hb hans ho hn0 hn1 hri hll HKc b0 b1 b2
    obtain ⟨b0, b1, b2⟩ := HKd.out.box3 (q := q) (a := .int .i64 m) (b := .slice (some ⟨ha, 0, none⟩) hs.length hcap) (e := .slice (some ⟨sa, 0, none⟩) ss.length scap) (t := 25) (by simp)
    go_wp2_with fail
    refine (Crosses_any (B := w8.heap.size) (xs := nats LW) (by rw [nats_length]; have := HWY.out.2; omega) (Nat.le_refl _) (HKd.out.rsH (v := .slice (some ⟨ha, 0, none⟩) hs.length hcap) (hs := hs) (by simp)) (HKd.out.rsI (v := .slice (some ⟨sa, 0, none⟩) ss.length scap) (l := ss) (by simp)) (HKd.out.rsN (v := .slice a11 LW.length c11) (l := LW) (by simp))).mono ?_
    rintro e w9 ⟨x1, y1, er1, rfl, hb, hca⟩
    obtain ⟨rfl, hy1⟩ := crossing_crosses HO.out HWY.out.1 hca
    have hx1 := (prove_cross HSD.out hca).1
    have HXY := Lib.hid (And.intro hx1 hy1)
    have HKe := Lib.hid (HKd.out.grow hb)
    clear hb hca hx1 hy1 HKd b0 b1 b2
    go_upto_region 12 with (fail)
    have HKf := Lib.hid (HKe.out.lay (.cells #[.int .i64 x1, .int .i64 y1] 54))
    obtain ⟨q17, hqe⟩ : ∃ q, q = w9.heap.size := ⟨_, rfl⟩
    simp only [← hqe] at HKf ⊢
    generalize w9.alloc (.cells #[.int .i64 x1, .int .i64 y1] 54) = w10 at HKf ⊢
    clear HKe hqe
    obtain ⟨b0, b1, b2⟩ := HKf.out.box3 (q := q) (a := .int .i64 m) (b := .slice (some ⟨ha, 0, none⟩) hs.length hcap) (e := .slice (some ⟨sa, 0, none⟩) ss.length scap) (t := 25) (by simp)
    obtain ⟨e0, e1⟩ := HKf.out.box2 (q := q9) (a := .int .i64 x) (b := .int .i64 y) (t := 54) (by simp)
    go_wp2_with fail
    refine (Parts_any (B := w10.heap.size) (xs := nats L) (h := x) (by rw [nats_length]; have := HRI.out.2; omega) (Nat.le_refl _) (HKf.out.rsH (v := .slice (some ⟨ha, 0, none⟩) hs.length hcap) (hs := hs) (by simp)) (HKf.out.rsI (v := .slice (some ⟨sa, 0, none⟩) ss.length scap) (l := ss) (by simp)) (HKf.out.rsN (v := .slice a13 L.length c13) (l := L) (by simp))).mono ?_
    rintro e w11 ⟨dd, er1, rfl, hb, hp1⟩
    obtain ⟨rfl, rfl⟩ := ridge_parts HSD.out HRI.out.1 hp1
    have HKg := Lib.hid (HKf.out.grow hb)
    clear hb hp1 HKf b0 b1 b2 e0 e1
    obtain ⟨b0, b1, b2⟩ := HKg.out.box3 (q := q) (a := .int .i64 m) (b := .slice (some ⟨ha, 0, none⟩) hs.length hcap) (e := .slice (some ⟨sa, 0, none⟩) ss.length scap) (t := 25) (by simp)
    obtain ⟨e0, e1⟩ := HKg.out.box2 (q := q9) (a := .int .i64 x) (b := .int .i64 y) (t := 54) (by simp)
    have hxr : 0 ≤ x ∧ x ≤ 14 := prove_range HO.out HSD.out (fun c hc => by have h1 := HM.out.cells.l1; have h := HM.out.cells.h c (by omega); omega)
    have ewx : IntKind.i64.wrap (x + 1) = x + 1 := IntWalk.i64_in _ (by omega)
    have HXR := Lib.hid hxr
    clear hxr
    go_wp2_with fail
    clear ewx
    refine (Parts_any (B := w11.heap.size) (xs := nats L) (h := x + 1) (by rw [nats_length]; have := HRI.out.2; omega) (Nat.le_refl _) (HKg.out.rsH (v := .slice (some ⟨ha, 0, none⟩) hs.length hcap) (hs := hs) (by simp)) (HKg.out.rsI (v := .slice (some ⟨sa, 0, none⟩) ss.length scap) (l := ss) (by simp)) (HKg.out.rsN (v := .slice a13 L.length c13) (l := L) (by simp))).mono ?_
    rintro e w12 ⟨dd, er1, rfl, hb, hp1⟩
    obtain ⟨rfl, rfl⟩ := prove_more HSD.out (by have := HXR.out; omega) HRI.out.1 hp1
    have HKh := Lib.hid (HKg.out.grow hb)
    clear hb hp1 HKg b0 b1 b2 e0 e1
    obtain ⟨b0, b1, b2⟩ := HKh.out.box3 (q := q) (a := .int .i64 m) (b := .slice (some ⟨ha, 0, none⟩) hs.length hcap) (e := .slice (some ⟨sa, 0, none⟩) ss.length scap) (t := 25) (by simp)
    obtain ⟨e0, e1⟩ := HKh.out.box2 (q := q9) (a := .int .i64 x) (b := .int .i64 y) (t := 54) (by simp)
    obtain ⟨f0, f1⟩ := HKh.out.box2 (q := q17) (a := .int .i64 x1) (b := .int .i64 y1) (t := 54) (by simp)
    have d1 : decide (y < y1) = false := by rw [decide_eq_false_iff_not]; have := HXY.out.2; omega
    have d2 : decide (x1 < x) = false := by rw [decide_eq_false_iff_not]; have := HXY.out.1; omega
    go_upto_region 16 with (fail)
    clear b0 b1 b2 e0 e1 f0 f1 d1 d2
    have HKi := Lib.hid (HKh.out.grow (Below.refl _ w12).drew)
    have hC : (fun W => W.cell? ⟨q, 0, none⟩ = some (.int .i64 m) ∧ W.cell? ⟨q, 1, none⟩ = some (.slice (some ⟨ha, 0, none⟩) hs.length hcap) ∧ W.cell? ⟨q, 2, none⟩ = some (.slice (some ⟨sa, 0, none⟩) ss.length scap)) w12.drew := HKi.out.box3 (q := q) (a := .int .i64 m) (b := .slice (some ⟨ha, 0, none⟩) hs.length hcap) (e := .slice (some ⟨sa, 0, none⟩) ss.length scap) (t := 25) (by simp)
    have hCC := Lib.hid hC
    clear HKh
    generalize hW0 : w12.drew = W3 at HKi hC hCC
    refine Lim.regC' (fun W => W.cell? ⟨q, 0, none⟩ = some (.int .i64 m) ∧ W.cell? ⟨q, 1, none⟩ = some (.slice (some ⟨ha, 0, none⟩) hs.length hcap) ∧ W.cell? ⟨q, 2, none⟩ = some (.slice (some ⟨sa, 0, none⟩) ss.length scap)) [] #[false, false, false, false, false, false, false, false, false, false] (by kernel_rfl) rfl ?_
    rw [hW0]; clear hW0
    refine Lim.stepR 0 (fun _ => trivial) rfl (by kernel_rfl) (fun _ _ _ _ h => h) hC rfl ?_; apply Exists.intro; refine ⟨?_, ?_⟩
    · rintro w ⟨r1, r2, r3⟩; go_simp; try with_reducible rfl
    simp only [Act.put, List.setIfInBounds_toArray, List.set_cons_succ, List.set_cons_zero]
    refine Lim.stepR 1 (fun _ => trivial) rfl (by kernel_rfl) (fun _ _ _ _ h => h) hC rfl ?_; apply Exists.intro; refine ⟨?_, ?_⟩
    · rintro w ⟨r1, r2, r3⟩; go_simp; try with_reducible rfl
    simp only [Act.put, List.setIfInBounds_toArray, List.set_cons_succ, List.set_cons_zero]
    refine Lim.stepR 2 (fun _ => trivial) rfl (by kernel_rfl) (fun _ _ _ _ h => h) hC rfl ?_; apply Exists.intro; refine ⟨?_, ?_⟩
    · rintro w ⟨r1, r2, r3⟩; go_simp; try with_reducible rfl
    simp only [Act.put, List.setIfInBounds_toArray, List.set_cons_succ, List.set_cons_zero]
    refine Lim.stepR 4 (fun _ => trivial) rfl (by kernel_rfl) (fun _ _ _ _ h => h) hC rfl ?_; apply Exists.intro; refine ⟨?_, ?_⟩
    · rintro w ⟨r1, r2, r3⟩; go_simp; try with_reducible rfl
    simp only [Act.put, List.setIfInBounds_toArray, List.set_cons_succ, List.set_cons_zero]
    refine Lim.stepR 5 (fun _ => trivial) rfl (by kernel_rfl) (fun _ _ _ _ h => h) hC rfl ?_; apply Exists.intro; refine ⟨?_, ?_⟩
    · rintro w ⟨r1, r2, r3⟩; go_simp; try with_reducible rfl
    simp only [Act.put, List.setIfInBounds_toArray, List.set_cons_succ, List.set_cons_zero]
    refine Lim.stepR 6 (fun _ => trivial) rfl (by kernel_rfl) (fun _ _ _ _ h => h) hC rfl ?_; apply Exists.intro; refine ⟨?_, ?_⟩
    · rintro w ⟨r1, r2, r3⟩; go_simp; try with_reducible rfl
    simp only [Act.put, List.setIfInBounds_toArray, List.set_cons_succ, List.set_cons_zero]
    clear hC
    refine Lim.parC [3, 7, 8, 9] (fun done a W => ∃ x55 x59 x9 x10, a = { tmps := #[.slice na ns.length nc, .slice ua ts.length uc, undef, undef, .bool false, .pointer (some ⟨w.heap.size, 0, none⟩), .pointer (some ⟨d1, 0, none⟩), .pointer (some ⟨q, 0, none⟩), .slice (some ⟨ta, 0, none⟩) T.length tcap, .pointer (some ⟨q9, 0, none⟩), .int .i64 0, .slice a11 LW.length c11, .int .i64 0, .slice a13 L.length c13, .int .i64 0, undef, undef, .pointer (some ⟨q17, 0, none⟩), .bool true, .bool false, .int .i64 0, x9, x10, undef, undef, undef, undef, undef, undef, undef, undef, undef, undef, undef, undef, undef, undef, .slice na ns.length nc, .pointer (some ⟨w.heap.size, 0, none⟩), .slice ua ts.length uc, .pointer (some ⟨d1, 0, none⟩), .tuple #[.agg #[.int .i64 ↑m, .slice (some ⟨ha, 0, none⟩) hs.length hcap, .slice (some ⟨sa, 0, none⟩) ss.length scap], .slice (some ⟨ta, 0, none⟩) T.length tcap], .pointer (some ⟨w.heap.size, 0, none⟩), .tuple #[.agg #[.int .i64 ↑m, .slice (some ⟨ha, 0, none⟩) hs.length hcap, .slice (some ⟨sa, 0, none⟩) ss.length scap], .slice (some ⟨ta, 0, none⟩) T.length tcap], .agg #[.int .i64 ↑m, .slice (some ⟨ha, 0, none⟩) hs.length hcap, .slice (some ⟨sa, 0, none⟩) ss.length scap], .slice (some ⟨ta, 0, none⟩) T.length tcap, .tuple #[.agg #[.int .i64 x, .int .i64 y], .int .i64 0], .agg #[.int .i64 ↑m, .slice (some ⟨ha, 0, none⟩) hs.length hcap, .slice (some ⟨sa, 0, none⟩) ss.length scap], .tuple #[.agg #[.int .i64 x, .int .i64 y], .int .i64 0], .agg #[.int .i64 x, .int .i64 y], .int .i64 0, .tuple #[.slice a11 LW.length c11, .int .i64 0], .agg #[.int .i64 ↑m, .slice (some ⟨ha, 0, none⟩) hs.length hcap, .slice (some ⟨sa, 0, none⟩) ss.length scap], .tuple #[.slice a11 LW.length c11, .int .i64 0], .slice a11 LW.length c11, .int .i64 0, .tuple #[.slice a13 L.length c13, .int .i64 0], .agg #[.int .i64 ↑m, .slice (some ⟨ha, 0, none⟩) hs.length hcap, .slice (some ⟨sa, 0, none⟩) ss.length scap], .tuple #[.slice a13 L.length c13, .int .i64 0], .slice a13 L.length c13, .int .i64 0, .int .i64 0, .int .i64 0, .bool false, .bool false, .int .i64 0, .int .i64 0, .bool false, .bool false, .int .i64 0, .bool false, undef, undef, undef, undef, undef, undef, undef, undef, undef, undef, undef, undef, undef, undef, undef, undef, undef, .tuple #[.agg #[.int .i64 x1, .int .i64 y1], .int .i64 0], .agg #[.int .i64 ↑m, .slice (some ⟨ha, 0, none⟩) hs.length hcap, .slice (some ⟨sa, 0, none⟩) ss.length scap], .slice a11 LW.length c11, .tuple #[.agg #[.int .i64 x1, .int .i64 y1], .int .i64 0], .agg #[.int .i64 x1, .int .i64 y1], .int .i64 0, .tuple #[.bool true, .int .i64 0], .agg #[.int .i64 ↑m, .slice (some ⟨ha, 0, none⟩) hs.length hcap, .slice (some ⟨sa, 0, none⟩) ss.length scap], .slice a13 L.length c13, .pointer (some ⟨q9, 0, none⟩), .int .i64 x, .tuple #[.bool true, .int .i64 0], .bool true, .int .i64 0, .tuple #[.bool false, .int .i64 0], .agg #[.int .i64 ↑m, .slice (some ⟨ha, 0, none⟩) hs.length hcap, .slice (some ⟨sa, 0, none⟩) ss.length scap], .slice a13 L.length c13, .pointer (some ⟨q9, 0, none⟩), .int .i64 x, .int .i64 (x + 1), .tuple #[.bool false, .int .i64 0], .bool false, .int .i64 0, .int .i64 0, .bool false, .bool false, .int .i64 0, .bool false, .bool false, .bool false, .int .i64 0, .bool false, .bool false, .bool false, .pointer (some ⟨q17, 1, none⟩), .int .i64 y1, .pointer (some ⟨q9, 1, none⟩), .int .i64 y, .bool false, .bool false, .bool false, .pointer (some ⟨q17, 0, none⟩), .int .i64 x1, .pointer (some ⟨q9, 0, none⟩), .int .i64 x, .bool false, .bool false, .bool false, .bool true, .bool false, .bool false, .bool false, .bool false, .bool false, .pointer (some ⟨q, 2, none⟩), .slice (some ⟨sa, 0, none⟩) ss.length scap, .int .i64 ↑ss.length, x55, .pointer (some ⟨q, 2, none⟩), .slice (some ⟨sa, 0, none⟩) ss.length scap, .int .i64 ↑ss.length, x59, undef, undef, undef, undef, undef, undef, undef, undef, undef, undef, undef, undef, undef, undef, undef, undef, undef, undef, undef, undef, undef, undef, undef, undef, undef, undef, undef, undef, undef, undef, undef, undef, undef, undef, undef, undef, undef, undef, undef, undef, undef, undef, undef, undef, undef, undef, undef, undef, undef, undef, undef, undef, undef, undef, undef, undef, undef, undef, undef, undef, undef, undef, undef, undef, undef, undef, undef, undef, undef, undef, undef, undef, undef, undef, undef, undef, undef, undef, undef, undef, undef, undef, undef, undef, undef, undef, undef, undef, undef, undef, undef, undef, undef, undef, undef, undef, undef, undef, undef, undef, undef, undef, undef, undef, undef, undef, undef, undef, undef, undef, undef, undef, undef, undef, undef, undef, undef, undef, undef, undef, undef, undef, undef, undef, undef, undef, undef, undef, undef, undef, undef, undef, undef, undef, undef, undef, undef, undef, undef, undef, undef, undef, undef, undef, undef, undef, undef, undef, undef, undef, undef, undef, undef, undef, undef, undef, undef, undef, undef, undef, undef, undef, undef, undef, undef, undef, undef, undef, undef, undef, undef, undef, undef, undef, undef, undef, undef, undef, undef, undef, undef, undef, undef, undef, undef, undef, undef], defers := [] } ∧ Mk2 W3 ss.length done x55 x59 x9 x10 W) (fun _ => trivial) (by kernel_rfl) rfl rfl ?hC ?step ?fin ⟨_, _, _, _, rfl, Mk2.begin _⟩
    case hC =>
      rintro done a W ⟨x55, x59, x9, x10, rfl, HM2⟩
      exact ⟨cell_on HM2.b hCC.out.1, cell_on HM2.b hCC.out.2.1, cell_on HM2.b hCC.out.2.2⟩
    case step =>
      intro i o hi ho done a W hd hdep hS K hK
      obtain ⟨x55, x59, x9, x10, rfl, HM2⟩ := hS
      simp only [List.mem_cons, List.not_mem_nil, or_false] at hi
      rcases hi with rfl | rfl | rfl | rfl
      · cases ho
        clear hdep
        obtain ⟨W', hrun, ho1, hb⟩ := make_zeros (W := W) HIN.out (B := W3.heap.size) (n := ss.length) (by have := HLN.out; omega) HM2.b.size
        refine make_upon rfl rfl rfl hrun (hK _ _ ?_)
        simp only [Act.put, List.setIfInBounds_toArray, List.set_cons_succ, List.set_cons_zero]
        exact ⟨_, _, _, _, rfl, HM2.st3 hd hb ho1⟩
      · cases ho
        clear hdep
        obtain ⟨W', hrun, ho1, hb⟩ := make_zeros (W := W) HIN.out (B := W3.heap.size) (n := ss.length) (by have := HLN.out; omega) HM2.b.size
        refine make_upon rfl rfl rfl hrun (hK _ _ ?_)
        simp only [Act.put, List.setIfInBounds_toArray, List.set_cons_succ, List.set_cons_zero]
        exact ⟨_, _, _, _, rfl, HM2.st7 hd hb ho1⟩
      · cases ho
        have h3 := hdep 3 (by kernel_rfl) (by simp)
        clear hdep
        go_simp
        refine hK _ _ ?_
        exact ⟨_, _, _, _, rfl, HM2.st8 h3⟩
      · cases ho
        have h7 := hdep 7 (by kernel_rfl) (by simp)
        clear hdep
        go_simp
        refine hK _ _ ?_
        exact ⟨_, _, _, _, rfl, HM2.st9 h7⟩
    case fin =>
      rintro done a W4 hall ⟨x55, x59, x9, x10, rfl, HM2⟩
      obtain ⟨pP, e1, zP, oP⟩ := HM2.d3 (hall 3 (by simp))
      obtain ⟨pM, e2, zM, oM⟩ := HM2.d7 (hall 7 (by simp))
      have e3 := (HM2.d8 (hall 8 (by simp))).2
      have e4 := (HM2.d9 (hall 9 (by simp))).2
      have hPM : pP ≠ pM := fun e => HM2.ne (hall 3 (by simp)) (hall 7 (by simp)) (by rw [e1, e2, e])
      subst e1 e2 e3 e4
      have HT0 : Hid (TwI W3 ss.length pP ss.length pM ss.length (List.replicate ss.length 0) (List.replicate ss.length 0) W4) := Lib.hid ⟨HM2.b, oP, oM, hPM⟩
      clear hall HM2 hPM oP oM zP zM hCC
      have HKl := HKi.out.grow HT0.out.g
      have HKl := Lib.hid HKl
      obtain ⟨b0, b1, b2⟩ := HKl.out.box3 (q := q) (a := .int .i64 m) (b := .slice (some ⟨ha, 0, none⟩) hs.length hcap) (e := .slice (some ⟨sa, 0, none⟩) ss.length scap) (t := 25) (by simp)
      go_wp2_with fail
      clear b0 b1 b2 HKl
      go_loopw [153] (fun i W => ∃ (k : Nat) (Lo Hi : List Int), k ≤ hs.length ∧ i = .int .i64 k ∧ Hid (LoP hs k Lo Hi) ∧ Hid (TwI W3 ss.length pP ss.length pM ss.length Lo Hi W)) (fun i _ => hs.length - (intOf i).toNat)
      case atStart => exact ⟨0, _, _, Nat.zero_le _, rfl, Lib.hid ⟨by have := HLN.out.1; simp; omega, by have := HLN.out.1; simp; omega, fun c h => by omega, fun c h => by omega⟩, HT0⟩
      case round =>
        as_aux_lemma =>
          clear HT0
          obtain ⟨k, Lo, Hi, hk, rfl, HP, HT⟩ := hrel
          by_cases hlt : k < hs.length
          · have HKl := Lib.hid (HKi.out.grow HT.out.g)
            obtain ⟨k0, k1⟩ := HKl.out.cellH (g := ha) (cap := hcap) (l := hs) (by simp) hlt
            obtain ⟨⟨lo, hi⟩, hx⟩ : ∃ t, t = hs.getD k (0, 0) := ⟨_, rfl⟩
            rw [← hx] at k0 k1
            dsimp only at k0 k1
            have HX := Lib.hid hx
            have hls := HLN.out.1
            have hi1 : (k : Int) < (hs.length : Int) := by omega
            have hi2 : (k : Int) < (ss.length : Int) := by omega
            have hi3 : k < ss.length := by omega
            have hi9 : (k : Int) < 1000 := by have := HLN.out; omega
            clear hx hls
            go_upto_region 20 with (fail)
            clear k0 k1 HKl
            have HNX := Lib.hid (And.intro ((Below.refl _ wr).alloc (Nat.le_refl _) (.cells #[.int .i64 lo, .int .i64 hi] 54)) (heap_alloc_new wr (.cells #[.int .i64 lo, .int .i64 hi] 54)))
            obtain ⟨q24, hqe⟩ : ∃ q, q = wr.heap.size := ⟨_, rfl⟩
            have HNE : Hid (q24 ≠ pP ∧ q24 ≠ pM) := Lib.hid ⟨by have := (HT.out.p.lt pP rfl).2; omega, by have := (HT.out.m.lt pM rfl).2; omega⟩
            have HTx := Lib.hid (HT.out.grow HNX.out.1)
            have hbx := HNX.out.2
            simp only [← hqe] at hbx ⊢
            generalize wr.alloc (.cells #[.int .i64 lo, .int .i64 hi] 54) = wa at HTx hbx ⊢
            clear hqe HNX HT
            have HT1 := Lib.hid (HTx.out.grow (Below.refl _ wa).drew)
            have hC : (fun W => W.cell? ⟨q24, 0, none⟩ = some (.int .i64 lo) ∧ W.cell? ⟨q24, 1, none⟩ = some (.int .i64 hi)) wa.drew := (two_cells hbx).1
            clear HTx hbx
            generalize hW0 : wa.drew = W1 at HT1 hC
            refine Lim.regC' (fun W => W.cell? ⟨q24, 0, none⟩ = some (.int .i64 lo) ∧ W.cell? ⟨q24, 1, none⟩ = some (.int .i64 hi)) [] #[false, false, false, false, false, false, false, false, false, false, false, false] (by kernel_rfl) rfl ?_
            rw [hW0]; clear hW0
            refine Lim.stepR 0 (fun _ => trivial) rfl (by kernel_rfl) (fun _ _ _ _ h => h) hC rfl ?_; apply Exists.intro; refine ⟨?_, ?_⟩
            · rintro w ⟨r1, r2⟩; go_simp; try with_reducible rfl
            simp only [Act.put, List.setIfInBounds_toArray, List.set_cons_succ, List.set_cons_zero]
            refine Lim.stepR 1 (fun _ => trivial) rfl (by kernel_rfl) (fun _ _ _ _ h => h) hC rfl ?_; apply Exists.intro; refine ⟨?_, ?_⟩
            · rintro w ⟨r1, r2⟩; go_simp; try with_reducible rfl
            simp only [Act.put, List.setIfInBounds_toArray, List.set_cons_succ, List.set_cons_zero]
            refine Lim.stepR 2 (fun _ => trivial) rfl (by kernel_rfl) (fun _ _ _ _ h => h) hC rfl ?_; apply Exists.intro; refine ⟨?_, ?_⟩
            · rintro w ⟨r1, r2⟩; go_simp; try with_reducible rfl
            simp only [Act.put, List.setIfInBounds_toArray, List.set_cons_succ, List.set_cons_zero]
            refine Lim.stepR 3 (fun _ => trivial) rfl (by kernel_rfl) (fun _ _ _ _ h => h) hC rfl ?_; apply Exists.intro; refine ⟨?_, ?_⟩
            · rintro w ⟨r1, r2⟩; go_simp; try with_reducible rfl
            simp only [Act.put, List.setIfInBounds_toArray, List.set_cons_succ, List.set_cons_zero]
            refine Lim.stepR 4 (fun _ => trivial) rfl (by kernel_rfl) (fun _ _ _ _ h => h) hC rfl ?_; apply Exists.intro; refine ⟨?_, ?_⟩
            · rintro w ⟨r1, r2⟩; go_simp; try with_reducible rfl
            simp only [Act.put, List.setIfInBounds_toArray, List.set_cons_succ, List.set_cons_zero]
            refine Lim.stepR 5 (fun _ => trivial) rfl (by kernel_rfl) (fun _ _ _ _ h => h) hC rfl ?_; apply Exists.intro; refine ⟨?_, ?_⟩
            · rintro w ⟨r1, r2⟩; go_simp; try with_reducible rfl
            simp only [Act.put, List.setIfInBounds_toArray, List.set_cons_succ, List.set_cons_zero]
            refine Lim.stepR 6 (fun _ => trivial) rfl (by kernel_rfl) (fun _ _ _ _ h => h) hC rfl ?_; apply Exists.intro; refine ⟨?_, ?_⟩
            · rintro w ⟨r1, r2⟩; go_simp; try with_reducible rfl
            simp only [Act.put, List.setIfInBounds_toArray, List.set_cons_succ, List.set_cons_zero]
            refine Lim.stepR 7 (fun _ => trivial) rfl (by kernel_rfl) (fun _ _ _ _ h => h) hC rfl ?_; apply Exists.intro; refine ⟨?_, ?_⟩
            · rintro w ⟨r1, r2⟩; go_simp; try with_reducible rfl
            simp only [Act.put, List.setIfInBounds_toArray, List.set_cons_succ, List.set_cons_zero]
            refine Lim.stepR 8 (fun _ => trivial) rfl (by kernel_rfl) (fun _ _ _ _ h => h) hC rfl ?_; apply Exists.intro; refine ⟨?_, ?_⟩
            · rintro w ⟨r1, r2⟩; go_simp; try with_reducible rfl
            simp only [Act.put, List.setIfInBounds_toArray, List.set_cons_succ, List.set_cons_zero]
            refine Lim.stepE 9 (fun _ => trivial) rfl (by kernel_rfl) rfl (fun K hK => ?_)   -- E store
            have zz0 := HT1.out.p.cellAt k (by omega)
            rw [ints_at' _ k (by rw [HP.out.l1]; exact hlt)] at zz0
            have zzf := HT1.out.p.frozenAt k
            have HT2 := Lib.hid (HT1.out.put_p k lo)
            have hC2 : (fun W => W.cell? ⟨q24, 0, none⟩ = some (.int .i64 lo) ∧ W.cell? ⟨q24, 1, none⟩ = some (.int .i64 hi)) (W1.setCell ⟨pP, k, none⟩ (.int .i64 lo)) := ⟨(setCell_far _ _ HNE.out.1.symm).trans hC.1, (setCell_far _ _ HNE.out.1.symm).trans hC.2⟩
            go_simp
            refine hK _ _ hC2 ?_
            clear zz0 zzf HT1
            generalize W1.setCell ⟨pP, k, none⟩ (.int .i64 lo) = Wb2 at HT2 hC2 ⊢
            simp only [Act.put, List.setIfInBounds_toArray, List.set_cons_succ, List.set_cons_zero]
            refine Lim.stepR 10 (fun _ => trivial) rfl (by kernel_rfl) (fun _ _ _ _ h => h) hC2 rfl ?_; apply Exists.intro; refine ⟨?_, ?_⟩
            · rintro w ⟨r1, r2⟩; go_simp; try with_reducible rfl
            simp only [Act.put, List.setIfInBounds_toArray, List.set_cons_succ, List.set_cons_zero]
            refine Lim.stepE 11 (fun _ => trivial) rfl (by kernel_rfl) rfl (fun K hK => ?_)   -- E store
            have zz0 := HT2.out.m.cellAt k (by omega)
            rw [ints_at' _ k (by rw [HP.out.l2]; exact hlt)] at zz0
            have zzf := HT2.out.m.frozenAt k
            have HT3 := Lib.hid (HT2.out.put_m k hi)
            have hC3 : (fun W => W.cell? ⟨q24, 0, none⟩ = some (.int .i64 lo) ∧ W.cell? ⟨q24, 1, none⟩ = some (.int .i64 hi)) (Wb2.setCell ⟨pM, k, none⟩ (.int .i64 hi)) := ⟨(setCell_far _ _ HNE.out.2.symm).trans hC2.1, (setCell_far _ _ HNE.out.2.symm).trans hC2.2⟩
            go_simp
            refine hK _ _ hC3 ?_
            clear zz0 zzf HT2
            generalize Wb2.setCell ⟨pM, k, none⟩ (.int .i64 hi) = Wb3 at HT3 hC3 ⊢
            simp only [Act.put, List.setIfInBounds_toArray, List.set_cons_succ, List.set_cons_zero]
            refine Lim.stepD (by kernel_rfl) ?_
            go_wp2
            go_roundw
            case rel => exact ⟨k + 1, _, _, by omega, by go_num, Lib.hid (by have h := HP.out.put hlt; rw [← HX.out] at h; exact h), HT3⟩
            case measure => simp [intOf]; omega
          · have hkn : k = hs.length := by omega
            subst hkn
            have hls := HLN.out.1
            have HKm : Hid (Kept w S d1 0 [rwI (.slice (some ⟨pM, 0, none⟩) ss.length ss.length) Hi, rwI (.slice (some ⟨pP, 0, none⟩) ss.length ss.length) Lo, rwN (.slice a13 L.length c13) L, rwN (.slice a11 LW.length c11) LW, rwI (.slice (some ⟨ta, 0, none⟩) T.length tcap) T, rwI (.slice (some ⟨sa, 0, none⟩) ss.length scap) ss, rwH (.slice (some ⟨ha, 0, none⟩) hs.length hcap) hs] [(q17, Obj.cells #[.int .i64 x1, .int .i64 y1] 54 (0, 0)), (q9, Obj.cells #[.int .i64 x, .int .i64 y] 54 (0, 0)), (q, Obj.cells #[.int .i64 m, .slice (some ⟨ha, 0, none⟩) hs.length hcap, .slice (some ⟨sa, 0, none⟩) ss.length scap] 25 (0, 0))] wr) := Lib.hid (by
              have o1 : (rwI (.slice (some ⟨pP, 0, none⟩) ss.length ss.length) Lo).Owned wr S := by show wr.ownsRow S _ 1 _ Lo.length _; rw [HP.out.l1, hls]; exact owns_mono HT.out.p HKi.out.o.2.2
              have o2 : (rwI (.slice (some ⟨pM, 0, none⟩) ss.length ss.length) Hi).Owned wr S := by show wr.ownsRow S _ 1 _ Hi.length _; rw [HP.out.l2, hls]; exact owns_mono HT.out.m HKi.out.o.2.2
              exact ((HKi.out.grow HT.out.g).addR (Nat.le_refl _) o1).addR (Nat.le_refl _) o2)
            clear hlt hk HKi HT hls
            obtain ⟨b0, b1, b2⟩ := HKm.out.box3 (q := q) (a := .int .i64 m) (b := .slice (some ⟨ha, 0, none⟩) hs.length hcap) (e := .slice (some ⟨sa, 0, none⟩) ss.length scap) (t := 25) (by simp)
            go_wp2_with fail
            refine (just_any (B := wr.heap.size) (wd := m) (T := Lo) (Nat.le_refl _) (HKm.out.rsH (v := .slice (some ⟨ha, 0, none⟩) hs.length hcap) (hs := hs) (by simp)) (HKm.out.rsI (v := .slice (some ⟨sa, 0, none⟩) ss.length scap) (l := ss) (by simp)) (HKm.out.rsI (v := .slice (some ⟨pP, 0, none⟩) ss.length ss.length) (l := Lo) (by simp)) (by have := HLN.out; omega) (by have := HLN.out; omega) (by have := HLN.out; omega) HP.out.l1).mono ?_
            rintro e wj1 ⟨hvwj1, svwj1, rfl, o1, o2, hb⟩
            obtain ⟨H, hHe⟩ : ∃ H, H = justTo hs Lo hs.length := ⟨_, rfl⟩
            have hHl : H.length = hs.length := by rw [hHe, justTo_len]
            have HOW : Hid (Own hs Lo H) := Lib.hid (by rw [hHe]; exact own_just hs Lo)
            rw [← hHe, ← hHl] at o1
            have HO1 := Lib.hid (And.intro o1 (And.intro o2 hb))
            clear hHe hHl o1 o2 hb b0 b1 b2
            go_wp2_with fail
            refine (Saddle_any (B := wj1.heap.size) (wd := m) (Nat.le_refl _) (RS.of_owns HO1.out.1) (RS.of_owns HO1.out.2.1)).mono ?_
            rintro e wj2 ⟨xa, ya, er1, rfl, hb, hans⟩
            obtain ⟨h1, h2, h3⟩ := prove_low HSD.out HP.out HOW.out hans
            obtain rfl := h1
            obtain rfl := h2.symm
            obtain rfl := h3.symm
            have HKn := Lib.hid ((HKm.out.grow HO1.out.2.2).grow hb)
            clear h2 h3 hb hans HKm HO1 HOW
            go_upto_region 23 with (fail)
            have HKp := Lib.hid (HKn.out.lay (.cells #[.int .i64 x, .int .i64 x] 54))
            obtain ⟨q25, hqe⟩ : ∃ q, q = wj2.heap.size := ⟨_, rfl⟩
            simp only [← hqe] at HKp ⊢
            generalize wj2.alloc (.cells #[.int .i64 x, .int .i64 x] 54) = wj3 at HKp ⊢
            clear HKn hqe
            obtain ⟨b0, b1, b2⟩ := HKp.out.box3 (q := q) (a := .int .i64 m) (b := .slice (some ⟨ha, 0, none⟩) hs.length hcap) (e := .slice (some ⟨sa, 0, none⟩) ss.length scap) (t := 25) (by simp)
            go_wp2_with fail
            refine (just_any (B := wj3.heap.size) (wd := m) (T := Hi) (Nat.le_refl _) (HKp.out.rsH (v := .slice (some ⟨ha, 0, none⟩) hs.length hcap) (hs := hs) (by simp)) (HKp.out.rsI (v := .slice (some ⟨sa, 0, none⟩) ss.length scap) (l := ss) (by simp)) (HKp.out.rsI (v := .slice (some ⟨pM, 0, none⟩) ss.length ss.length) (l := Hi) (by simp)) (by have := HLN.out; omega) (by have := HLN.out; omega) (by have := HLN.out; omega) HP.out.l2).mono ?_
            rintro e wj4 ⟨hvwj4, svwj4, rfl, o1, o2, hb⟩
            obtain ⟨H, hHe⟩ : ∃ H, H = justTo hs Hi hs.length := ⟨_, rfl⟩
            have hHl : H.length = hs.length := by rw [hHe, justTo_len]
            have HOW : Hid (Own hs Hi H) := Lib.hid (by rw [hHe]; exact own_just hs Hi)
            rw [← hHe, ← hHl] at o1
            have HO1 := Lib.hid (And.intro o1 (And.intro o2 hb))
            clear hHe hHl o1 o2 hb b0 b1 b2
            go_wp2_with fail
            refine (Saddle_any (B := wj4.heap.size) (wd := m) (Nat.le_refl _) (RS.of_owns HO1.out.1) (RS.of_owns HO1.out.2.1)).mono ?_
            rintro e wj5 ⟨xa, ya, er1, rfl, hb, hans⟩
            obtain ⟨h1, h2, h3⟩ := prove_high HSD.out HP.out HOW.out hans
            obtain rfl := h1
            obtain rfl := h2.symm
            obtain rfl := h3.symm
            have HKq := Lib.hid ((HKp.out.grow HO1.out.2.2).grow hb)
            clear h2 h3 hb hans HKp HO1 HOW
            go_upto_region 24 with (fail)
            have HKs := Lib.hid (HKq.out.lay (.cells #[.int .i64 y, .int .i64 y] 54))
            obtain ⟨q26, hqe⟩ : ∃ q, q = wj5.heap.size := ⟨_, rfl⟩
            simp only [← hqe] at HKs ⊢
            generalize wj5.alloc (.cells #[.int .i64 y, .int .i64 y] 54) = wj6 at HKs ⊢
            clear HKq hqe
            have HKh := Lib.hid (HKs.out.grow (Below.refl _ wj6).drew)
            have hC : (fun W => (W.cell? ⟨q25, 0, none⟩ = some (.int .i64 x) ∧ W.cell? ⟨q25, 1, none⟩ = some (.int .i64 x)) ∧ (W.cell? ⟨q26, 0, none⟩ = some (.int .i64 y) ∧ W.cell? ⟨q26, 1, none⟩ = some (.int .i64 y)) ∧ (W.cell? ⟨q9, 0, none⟩ = some (.int .i64 x) ∧ W.cell? ⟨q9, 1, none⟩ = some (.int .i64 y))) wj6.drew := ⟨HKh.out.box2 (q := q25) (a := .int .i64 x) (b := .int .i64 x) (t := 54) (by simp), HKh.out.box2 (q := q26) (a := .int .i64 y) (b := .int .i64 y) (t := 54) (by simp), HKh.out.box2 (q := q9) (a := .int .i64 x) (b := .int .i64 y) (t := 54) (by simp)⟩
            clear HKs
            generalize hW0 : wj6.drew = W1 at HKh hC
            refine Lim.regC' (fun W => (W.cell? ⟨q25, 0, none⟩ = some (.int .i64 x) ∧ W.cell? ⟨q25, 1, none⟩ = some (.int .i64 x)) ∧ (W.cell? ⟨q26, 0, none⟩ = some (.int .i64 y) ∧ W.cell? ⟨q26, 1, none⟩ = some (.int .i64 y)) ∧ (W.cell? ⟨q9, 0, none⟩ = some (.int .i64 x) ∧ W.cell? ⟨q9, 1, none⟩ = some (.int .i64 y))) [] #[false, false, false, false, false, false, false, false, false, false, false, false, false, false, false, false, false, false, false, false, false, false, false, false] (by kernel_rfl) rfl ?_
            rw [hW0]; clear hW0
            refine Lim.stepR 0 (fun _ => trivial) rfl (by kernel_rfl) (fun _ _ _ _ h => h) hC rfl ?_; apply Exists.intro; refine ⟨?_, ?_⟩
            · rintro w ⟨⟨r1, r2⟩, ⟨r3, r4⟩, ⟨r5, r6⟩⟩; go_simp; try with_reducible rfl
            simp only [Act.put, List.setIfInBounds_toArray, List.set_cons_succ, List.set_cons_zero]
            refine Lim.stepR 1 (fun _ => trivial) rfl (by kernel_rfl) (fun _ _ _ _ h => h) hC rfl ?_; apply Exists.intro; refine ⟨?_, ?_⟩
            · rintro w ⟨⟨r1, r2⟩, ⟨r3, r4⟩, ⟨r5, r6⟩⟩; go_simp; try with_reducible rfl
            simp only [Act.put, List.setIfInBounds_toArray, List.set_cons_succ, List.set_cons_zero]
            refine Lim.stepR 2 (fun _ => trivial) rfl (by kernel_rfl) (fun _ _ _ _ h => h) hC rfl ?_; apply Exists.intro; refine ⟨?_, ?_⟩
            · rintro w ⟨⟨r1, r2⟩, ⟨r3, r4⟩, ⟨r5, r6⟩⟩; go_simp; try with_reducible rfl
            simp only [Act.put, List.setIfInBounds_toArray, List.set_cons_succ, List.set_cons_zero]
            refine Lim.stepR 3 (fun _ => trivial) rfl (by kernel_rfl) (fun _ _ _ _ h => h) hC rfl ?_; apply Exists.intro; refine ⟨?_, ?_⟩
            · rintro w ⟨⟨r1, r2⟩, ⟨r3, r4⟩, ⟨r5, r6⟩⟩; go_simp; try with_reducible rfl
            simp only [Act.put, List.setIfInBounds_toArray, List.set_cons_succ, List.set_cons_zero]
            refine Lim.stepR 4 (fun _ => trivial) rfl (by kernel_rfl) (fun _ _ _ _ h => h) hC rfl ?_; apply Exists.intro; refine ⟨?_, ?_⟩
            · rintro w ⟨⟨r1, r2⟩, ⟨r3, r4⟩, ⟨r5, r6⟩⟩; go_simp; try with_reducible rfl
            simp only [Act.put, List.setIfInBounds_toArray, List.set_cons_succ, List.set_cons_zero]
            refine Lim.stepR 5 (fun _ => trivial) rfl (by kernel_rfl) (fun _ _ _ _ h => h) hC rfl ?_; apply Exists.intro; refine ⟨?_, ?_⟩
            · rintro w ⟨⟨r1, r2⟩, ⟨r3, r4⟩, ⟨r5, r6⟩⟩; go_simp; try with_reducible rfl
            simp only [Act.put, List.setIfInBounds_toArray, List.set_cons_succ, List.set_cons_zero]
            refine Lim.stepR 6 (fun _ => trivial) rfl (by kernel_rfl) (fun _ _ _ _ h => h) hC rfl ?_; apply Exists.intro; refine ⟨?_, ?_⟩
            · rintro w ⟨⟨r1, r2⟩, ⟨r3, r4⟩, ⟨r5, r6⟩⟩; go_simp; try with_reducible rfl
            simp only [Act.put, List.setIfInBounds_toArray, List.set_cons_succ, List.set_cons_zero]
            refine Lim.stepR 7 (fun _ => trivial) rfl (by kernel_rfl) (fun _ _ _ _ h => h) hC rfl ?_; apply Exists.intro; refine ⟨?_, ?_⟩
            · rintro w ⟨⟨r1, r2⟩, ⟨r3, r4⟩, ⟨r5, r6⟩⟩; go_simp; try with_reducible rfl
            simp only [Act.put, List.setIfInBounds_toArray, List.set_cons_succ, List.set_cons_zero]
            refine Lim.stepR 8 (fun _ => trivial) rfl (by kernel_rfl) (fun _ _ _ _ h => h) hC rfl ?_; apply Exists.intro; refine ⟨?_, ?_⟩
            · rintro w ⟨⟨r1, r2⟩, ⟨r3, r4⟩, ⟨r5, r6⟩⟩; go_simp; try with_reducible rfl
            simp only [Act.put, List.setIfInBounds_toArray, List.set_cons_succ, List.set_cons_zero]
            refine Lim.stepR 9 (fun _ => trivial) rfl (by kernel_rfl) (fun _ _ _ _ h => h) hC rfl ?_; apply Exists.intro; refine ⟨?_, ?_⟩
            · rintro w ⟨⟨r1, r2⟩, ⟨r3, r4⟩, ⟨r5, r6⟩⟩; go_simp; try with_reducible rfl
            simp only [Act.put, List.setIfInBounds_toArray, List.set_cons_succ, List.set_cons_zero]
            refine Lim.stepR 10 (fun _ => trivial) rfl (by kernel_rfl) (fun _ _ _ _ h => h) hC rfl ?_; apply Exists.intro; refine ⟨?_, ?_⟩
            · rintro w ⟨⟨r1, r2⟩, ⟨r3, r4⟩, ⟨r5, r6⟩⟩; go_simp; try with_reducible rfl
            simp only [Act.put, List.setIfInBounds_toArray, List.set_cons_succ, List.set_cons_zero]
            refine Lim.stepR 11 (fun _ => trivial) rfl (by kernel_rfl) (fun _ _ _ _ h => h) hC rfl ?_; apply Exists.intro; refine ⟨?_, ?_⟩
            · rintro w ⟨⟨r1, r2⟩, ⟨r3, r4⟩, ⟨r5, r6⟩⟩; go_simp; try with_reducible rfl
            simp only [Act.put, List.setIfInBounds_toArray, List.set_cons_succ, List.set_cons_zero]
            refine Lim.stepE 12 (fun _ => trivial) rfl (by kernel_rfl) rfl (fun K hK => ?_)   -- E call
            go_simp
            refine ⟨rfl, (callsIn_wide.2 (span_any x x _)).mono ?_⟩
            rintro e W4 ⟨rfl, hb4⟩
            have HKi := Lib.hid (HKh.out.grow hb4)
            have hC2 : (fun W => (W.cell? ⟨q25, 0, none⟩ = some (.int .i64 x) ∧ W.cell? ⟨q25, 1, none⟩ = some (.int .i64 x)) ∧ (W.cell? ⟨q26, 0, none⟩ = some (.int .i64 y) ∧ W.cell? ⟨q26, 1, none⟩ = some (.int .i64 y)) ∧ (W.cell? ⟨q9, 0, none⟩ = some (.int .i64 x) ∧ W.cell? ⟨q9, 1, none⟩ = some (.int .i64 y))) W4 := ⟨⟨cell_on hb4 hC.1.1, cell_on hb4 hC.1.2⟩, ⟨cell_on hb4 hC.2.1.1, cell_on hb4 hC.2.1.2⟩, ⟨cell_on hb4 hC.2.2.1, cell_on hb4 hC.2.2.2⟩⟩
            refine hK _ _ hC2 ?_
            clear hb4 HKh hC
            simp only [Act.put, List.setIfInBounds_toArray, List.set_cons_succ, List.set_cons_zero]
            refine Lim.stepR 13 (fun _ => trivial) rfl (by kernel_rfl) (fun _ _ _ _ h => h) hC2 rfl ?_; apply Exists.intro; refine ⟨?_, ?_⟩
            · rintro w ⟨⟨r1, r2⟩, ⟨r3, r4⟩, ⟨r5, r6⟩⟩; go_simp; try with_reducible rfl
            simp only [Act.put, List.setIfInBounds_toArray, List.set_cons_succ, List.set_cons_zero]
            refine Lim.stepR 14 (fun _ => trivial) rfl (by kernel_rfl) (fun _ _ _ _ h => h) hC2 rfl ?_; apply Exists.intro; refine ⟨?_, ?_⟩
            · rintro w ⟨⟨r1, r2⟩, ⟨r3, r4⟩, ⟨r5, r6⟩⟩; go_simp; try with_reducible rfl
            simp only [Act.put, List.setIfInBounds_toArray, List.set_cons_succ, List.set_cons_zero]
            refine Lim.stepR 15 (fun _ => trivial) rfl (by kernel_rfl) (fun _ _ _ _ h => h) hC2 rfl ?_; apply Exists.intro; refine ⟨?_, ?_⟩
            · rintro w ⟨⟨r1, r2⟩, ⟨r3, r4⟩, ⟨r5, r6⟩⟩; go_simp; try with_reducible rfl
            simp only [Act.put, List.setIfInBounds_toArray, List.set_cons_succ, List.set_cons_zero]
            refine Lim.stepR 16 (fun _ => trivial) rfl (by kernel_rfl) (fun _ _ _ _ h => h) hC2 rfl ?_; apply Exists.intro; refine ⟨?_, ?_⟩
            · rintro w ⟨⟨r1, r2⟩, ⟨r3, r4⟩, ⟨r5, r6⟩⟩; go_simp; try with_reducible rfl
            simp only [Act.put, List.setIfInBounds_toArray, List.set_cons_succ, List.set_cons_zero]
            refine Lim.stepR 17 (fun _ => trivial) rfl (by kernel_rfl) (fun _ _ _ _ h => h) hC2 rfl ?_; apply Exists.intro; refine ⟨?_, ?_⟩
            · rintro w ⟨⟨r1, r2⟩, ⟨r3, r4⟩, ⟨r5, r6⟩⟩; go_simp; try with_reducible rfl
            simp only [Act.put, List.setIfInBounds_toArray, List.set_cons_succ, List.set_cons_zero]
            refine Lim.stepR 18 (fun _ => trivial) rfl (by kernel_rfl) (fun _ _ _ _ h => h) hC2 rfl ?_; apply Exists.intro; refine ⟨?_, ?_⟩
            · rintro w ⟨⟨r1, r2⟩, ⟨r3, r4⟩, ⟨r5, r6⟩⟩; go_simp; try with_reducible rfl
            simp only [Act.put, List.setIfInBounds_toArray, List.set_cons_succ, List.set_cons_zero]
            refine Lim.stepR 19 (fun _ => trivial) rfl (by kernel_rfl) (fun _ _ _ _ h => h) hC2 rfl ?_; apply Exists.intro; refine ⟨?_, ?_⟩
            · rintro w ⟨⟨r1, r2⟩, ⟨r3, r4⟩, ⟨r5, r6⟩⟩; go_simp; try with_reducible rfl
            simp only [Act.put, List.setIfInBounds_toArray, List.set_cons_succ, List.set_cons_zero]
            refine Lim.stepR 20 (fun _ => trivial) rfl (by kernel_rfl) (fun _ _ _ _ h => h) hC2 rfl ?_; apply Exists.intro; refine ⟨?_, ?_⟩
            · rintro w ⟨⟨r1, r2⟩, ⟨r3, r4⟩, ⟨r5, r6⟩⟩; go_simp; try with_reducible rfl
            simp only [Act.put, List.setIfInBounds_toArray, List.set_cons_succ, List.set_cons_zero]
            refine Lim.stepE 21 (fun _ => trivial) rfl (by kernel_rfl) rfl (fun K hK => ?_)   -- E call
            go_simp
            refine ⟨rfl, (callsIn_wide.2 (span_any y y _)).mono ?_⟩
            rintro e W5 ⟨rfl, hb4⟩
            have HKj := Lib.hid (HKi.out.grow hb4)
            have hC3 : (fun W => (W.cell? ⟨q25, 0, none⟩ = some (.int .i64 x) ∧ W.cell? ⟨q25, 1, none⟩ = some (.int .i64 x)) ∧ (W.cell? ⟨q26, 0, none⟩ = some (.int .i64 y) ∧ W.cell? ⟨q26, 1, none⟩ = some (.int .i64 y)) ∧ (W.cell? ⟨q9, 0, none⟩ = some (.int .i64 x) ∧ W.cell? ⟨q9, 1, none⟩ = some (.int .i64 y))) W5 := ⟨⟨cell_on hb4 hC2.1.1, cell_on hb4 hC2.1.2⟩, ⟨cell_on hb4 hC2.2.1.1, cell_on hb4 hC2.2.1.2⟩, ⟨cell_on hb4 hC2.2.2.1, cell_on hb4 hC2.2.2.2⟩⟩
            refine hK _ _ hC3 ?_
            clear hb4 HKi hC2
            simp only [Act.put, List.setIfInBounds_toArray, List.set_cons_succ, List.set_cons_zero]
            refine Lim.stepR 22 (fun _ => trivial) rfl (by kernel_rfl) (fun _ _ _ _ h => h) hC3 rfl ?_; apply Exists.intro; refine ⟨?_, ?_⟩
            · rintro w ⟨⟨r1, r2⟩, ⟨r3, r4⟩, ⟨r5, r6⟩⟩; go_simp; try with_reducible rfl
            simp only [Act.put, List.setIfInBounds_toArray, List.set_cons_succ, List.set_cons_zero]
            refine Lim.stepR 23 (fun _ => trivial) rfl (by kernel_rfl) (fun _ _ _ _ h => h) hC3 rfl ?_; apply Exists.intro; refine ⟨?_, ?_⟩
            · rintro w ⟨⟨r1, r2⟩, ⟨r3, r4⟩, ⟨r5, r6⟩⟩; go_simp; try with_reducible rfl
            simp only [Act.put, List.setIfInBounds_toArray, List.set_cons_succ, List.set_cons_zero]
            refine Lim.stepD (by kernel_rfl) ?_
            clear hC3
            clear HP
            go_wp2_with fail
            go_loopw [207] (fun i W => ∃ (n c1 : Nat), n ≤ 5 ∧ i = .int .i64 n ∧ Hid (c1 ≤ 200 * n) ∧ Hid (Kept w S d1 c1 [rwI (.slice (some ⟨pM, 0, none⟩) ss.length ss.length) Hi, rwI (.slice (some ⟨pP, 0, none⟩) ss.length ss.length) Lo, rwN (.slice a13 L.length c13) L, rwN (.slice a11 LW.length c11) LW, rwI (.slice (some ⟨ta, 0, none⟩) T.length tcap) T, rwI (.slice (some ⟨sa, 0, none⟩) ss.length scap) ss, rwH (.slice (some ⟨ha, 0, none⟩) hs.length hcap) hs] [(q26, Obj.cells #[.int .i64 y, .int .i64 y] 54 (0, 0)), (q25, Obj.cells #[.int .i64 x, .int .i64 x] 54 (0, 0)), (q17, Obj.cells #[.int .i64 x1, .int .i64 y1] 54 (0, 0)), (q9, Obj.cells #[.int .i64 x, .int .i64 y] 54 (0, 0)), (q, Obj.cells #[.int .i64 m, .slice (some ⟨ha, 0, none⟩) hs.length hcap, .slice (some ⟨sa, 0, none⟩) ss.length scap] 25 (0, 0))] W)) (fun i _ => 5 - (intOf i).toNat)
            case atStart => exact ⟨0, 0, by omega, rfl, Lib.hid (by omega), HKj⟩
            case round =>
              as_aux_lemma =>
                clear HKj
                obtain ⟨n, c1, hn5, rfl, HC, HK⟩ := hrel
                obtain ⟨wo, rfl⟩ : ∃ wo : World, wo = wr := ⟨_, rfl⟩
                by_cases hlt : n < 5
                · have hn5i : (n : Int) < 5 := by omega
                  obtain ⟨b0, b1, b2⟩ := HK.out.box3 (q := q) (a := .int .i64 m) (b := .slice (some ⟨ha, 0, none⟩) hs.length hcap) (e := .slice (some ⟨sa, 0, none⟩) ss.length scap) (t := 25) (by simp)
                  go_wp2_with fail
                  clear b0 b1 b2
                  go_loopw [27, 212] (fun v i W => ∃ (k c : Nat) (M : List Nat), k ≤ ss.length ∧ i = .int .i64 k ∧ Hid (c ≤ c1 + k) ∧ Hid (MineTo ss k M) ∧ Hid (DrS wo S d1 (.slice (some ⟨ha, 0, none⟩) hs.length hcap) hs c v (nats M) W)) (fun _ i _ => ss.length - (intOf i).toNat)
                  case atStart => exact ⟨0, c1, [], Nat.zero_le _, rfl, Lib.hid (by omega), Lib.hid (MineTo.nil ss), Lib.hid ⟨grown_refl _ _, HK.out.dk, HK.out.r (rwH (.slice (some ⟨ha, 0, none⟩) hs.length hcap) hs) (by simp), World.ownsRow_nil _ _ _ _⟩⟩
                  case round =>
                    as_aux_lemma =>
                      obtain ⟨k, c, M, hk, rfl, HC2, HMT, HM⟩ := hrel
                      have HKx := Lib.hid (HK.out.draw HM.out.gr HM.out.dk)
                      by_cases hlk : k < ss.length
                      · have hki : (k : Int) < (ss.length : Int) := by omega
                        have hki9 : (k : Int) < 1000 := by have := HLN.out; omega
                        obtain ⟨b0, b1, b2⟩ := HKx.out.box3 (q := q) (a := .int .i64 m) (b := .slice (some ⟨ha, 0, none⟩) hs.length hcap) (e := .slice (some ⟨sa, 0, none⟩) ss.length scap) (t := 25) (by simp)
                        have q0 := HKx.out.cellI (g := sa) (cap := scap) (l := ss) (by simp) hlk
                        obtain ⟨sk, hsk⟩ : ∃ sk, sk = ss.getD k 0 := ⟨_, rfl⟩
                        rw [← hsk] at q0
                        have HDS : Hid (d1 < S ∧ S ≤ wo.heap.size) := Lib.hid HK.out.o.2
                        by_cases h0 : sk = 0
                        · subst h0
                          have HSK := Lib.hid hsk
                          clear hsk
                          go_wp2_with fail
                          clear b0 b1 b2 q0
                          refine (deck_draw (n := 3) HM.out.dk (by have h1 := HC2.out; have h2 := HC.out; have h3 := HLN.out; omega)).mono ?_
                          rintro e w2 ⟨r, rfl, hr, hdl⟩
                          have HM2 := Lib.hid (HM.out.dealt HDS.out hdl)
                          clear hdl HM HKx
                          by_cases hr0 : r = 0
                          · have z0 : decide (0 < r) = false := by rw [decide_eq_false_iff_not]; omega
                            clear hr0 hr
                            go_wp2
                            go_roundw
                            case rel => exact ⟨k + 1, c + 1, M, by omega, by go_num, Lib.hid (by have := HC2.out; omega), Lib.hid HMT.out.skip, HM2⟩
                            case measure => simp [intOf]; omega
                          · have z0 : decide (0 < r) = true := by rw [decide_eq_true_eq]; omega
                            have HLT : Hid ((nats M).length ≤ 100) := Lib.hid (by have := HMT.out.len; rw [nats_length]; have := HLN.out; omega)
                            have HPL : Hid (∀ r, Value.ownBlock (.slice (some ⟨ha, 0, none⟩) hs.length hcap) = some r → r < wo.heap.size) := Lib.hid (fun r e => ((HK.out.r (rwH (.slice (some ⟨ha, 0, none⟩) hs.length hcap) hs) (by simp)).lt r e).2)
                            clear hr0 hr
                            go_wp2_with (at_builtin; refine wpList_append_own _ rfl _ _ 23 rfl wo.heap.size 3 i0 (.int .i64 0) 1 8 Try.underlying23 HIN.out.1 HIN.out.2.1 HIN.out.2.2.1 HIN.out.2.2.2 rfl (by decide) _ _ _ rfl (HM2.out.grow ((Below.refl _ w2).alloc (Nat.le_refl _) (.cells #[.int .i64 k] 3))).o ⟨w2.heap.size, 0, none⟩ 1 1 [.int .i64 k] rfl rfl (cell_one_new _ _ _) (by simp [Value.oneCell']) (by have := HLT.out; unfold maxLen; omega) (by have := HLT.out; omega) (by have := HM2.out.gr.size; simp; omega) ?_; intro v' w3 hown3 hgrow _; have H3 := Lib.hid ((HM2.out.grow ((Below.refl _ w2).alloc (Nat.le_refl _) (.cells #[.int .i64 k] 3))).push HDS.out hown3 hgrow (fun r e => by cases e; exact HPL.out _ rfl)); clear hown3 hgrow)
                            go_roundw
                            case rel => exact ⟨k + 1, c + 1, M ++ [k], by omega, by go_num, Lib.hid (by have := HC2.out; omega), Lib.hid (HMT.out.snoc hlk HSK.out), Lib.hid (by have h := H3.out; rw [nats_snoc]; exact h)⟩
                            case measure => simp [intOf]; omega
                        · have z0 : (sk == 0) = false := by rw [beq_eq_false_iff_ne]; exact h0
                          clear hsk h0
                          go_wp2
                          go_roundw
                          case rel => exact ⟨k + 1, c, M, by omega, by go_num, Lib.hid (by have := HC2.out; omega), Lib.hid HMT.out.skip, HM⟩
                          case measure => simp [intOf]; omega
                      · have hkn : k = ss.length := by omega
                        subst hkn
                        clear HKx hlk hk
                        go_wp2_with fail
                        refine (deck_draw (n := 16) HM.out.dk (by have h1 := HC2.out; have h2 := HC.out; have h3 := HLN.out; omega)).mono ?_
                        rintro e w2 ⟨r, rfl, hr, hdl⟩
                        have HDS : Hid (d1 < S ∧ S ≤ wo.heap.size) := Lib.hid HK.out.o.2
                        have HM2 := Lib.hid (HM.out.dealt HDS.out hdl)
                        have HRR := Lib.hid (And.intro hr.2.1 (hr.2.2 (by omega)))
                        have HKy := Lib.hid (HK.out.draw HM2.out.gr HM2.out.dk)
                        clear hdl hr HM
                        obtain ⟨b0, b1, b2⟩ := HKy.out.box3 (q := q) (a := .int .i64 m) (b := .slice (some ⟨ha, 0, none⟩) hs.length hcap) (e := .slice (some ⟨sa, 0, none⟩) ss.length scap) (t := 25) (by simp)
                        go_wp2_with fail
                        have HRN : Hid (RS w2.heap.size w2 _ (nats M).length (ints (nats M))) := Lib.hid (RS.of_owns HM2.out.o)
                        refine (Parts_any (B := w2.heap.size) (xs := nats M) (h := r) (by rw [nats_length]; have := HMT.out.len; have := HLN.out; omega) (Nat.le_refl _) (HKy.out.rsH (v := .slice (some ⟨ha, 0, none⟩) hs.length hcap) (hs := hs) (by simp)) (HKy.out.rsI (v := .slice (some ⟨sa, 0, none⟩) ss.length scap) (l := ss) (by simp)) HRN.out).mono ?_
                        rintro e w3 ⟨dd, er1, rfl, hb, hp1⟩
                        obtain ⟨rfl, hdd⟩ := prove_mine HSD.out HMT.out.up HMT.out.land (by have := HRR.out; omega) hp1
                        have HKz := Lib.hid (HKy.out.grow hb)
                        clear hb hp1 HKy HM2 HRN b0 b1 b2
                        obtain ⟨e0, e1⟩ := HKz.out.box2 (q := q9) (a := .int .i64 x) (b := .int .i64 y) (t := 54) (by simp)
                        cases dd with
                        | true =>
                          have z0 : decide (x < r) = false := by rw [decide_eq_false_iff_not]; have := hdd rfl; omega
                          clear hdd
                          go_wp2_with fail
                          go_roundw
                          case rel => exact ⟨n + 1, _, by omega, by go_num, Lib.hid (by have h1 := HC2.out; have h2 := HC.out; have h3 := HLN.out; omega), HKz⟩
                          case measure => simp [intOf]; omega
                        | false =>
                          clear hdd
                          go_wp2_with fail
                          go_roundw
                          case rel => exact ⟨n + 1, _, by omega, by go_num, Lib.hid (by have h1 := HC2.out; have h2 := HC.out; have h3 := HLN.out; omega), HKz⟩
                          case measure => simp [intOf]; omega
                · have hn5i : ¬ ((n : Int) < 5) := by omega
                  have HC0 : Hid (c1 ≤ 1000) := Lib.hid (by have := HC.out; omega)
                  clear hlt hn5 HC
                  go_wp2_with fail
                  clear hn5i
                  go_loopw [252] (fun i W => ∃ (nw c1 : Nat), nw ≤ 4 ∧ i = .int .i64 nw ∧ Hid (c1 ≤ 1000 + 200 * nw) ∧ Hid (Kept w S d1 c1 [rwI (.slice (some ⟨pM, 0, none⟩) ss.length ss.length) Hi, rwI (.slice (some ⟨pP, 0, none⟩) ss.length ss.length) Lo, rwN (.slice a13 L.length c13) L, rwN (.slice a11 LW.length c11) LW, rwI (.slice (some ⟨ta, 0, none⟩) T.length tcap) T, rwI (.slice (some ⟨sa, 0, none⟩) ss.length scap) ss, rwH (.slice (some ⟨ha, 0, none⟩) hs.length hcap) hs] [(q26, Obj.cells #[.int .i64 y, .int .i64 y] 54 (0, 0)), (q25, Obj.cells #[.int .i64 x, .int .i64 x] 54 (0, 0)), (q17, Obj.cells #[.int .i64 x1, .int .i64 y1] 54 (0, 0)), (q9, Obj.cells #[.int .i64 x, .int .i64 y] 54 (0, 0)), (q, Obj.cells #[.int .i64 m, .slice (some ⟨ha, 0, none⟩) hs.length hcap, .slice (some ⟨sa, 0, none⟩) ss.length scap] 25 (0, 0))] W)) (fun i _ => 4 - (intOf i).toNat)
                  case atStart => exact ⟨0, c1, by omega, rfl, Lib.hid (by have := HC0.out; omega), HK⟩
                  case round =>
                    as_aux_lemma =>
                      clear HK HC0
                      obtain ⟨nw, c1, hn4, rfl, HC, HK⟩ := hrel
                      obtain ⟨wo, rfl⟩ : ∃ wo : World, wo = wr := ⟨_, rfl⟩
                      by_cases hlt : nw < 4
                      · have hn4i : (nw : Int) < 4 := by omega
                        obtain ⟨b0, b1, b2⟩ := HK.out.box3 (q := q) (a := .int .i64 m) (b := .slice (some ⟨ha, 0, none⟩) hs.length hcap) (e := .slice (some ⟨sa, 0, none⟩) ss.length scap) (t := 25) (by simp)
                        go_wp2_with fail
                        clear b0 b1 b2
                        refine (deck_draw (n := (ss.length : Int)) HK.out.dk (by have := HC.out; omega)).mono ?_
                        rintro e w2 ⟨r, rfl, hr, hdl⟩
                        obtain ⟨a0, rfl⟩ : ∃ k : Nat, r = k := ⟨r.toNat, by omega⟩
                        have HA0 : Hid (a0 < ss.length) := Lib.hid (by have h1 := hr.2.2; have h2 := HLN.out; omega)
                        have HKa := Lib.hid (HK.out.draw hdl.2.1 hdl.1)
                        clear hr hdl HK
                        go_wp2_with fail
                        have HDS : Hid (d1 < S ∧ S ≤ w2.heap.size) := Lib.hid HKa.out.o.2
                        have HPL : Hid (∀ r, Value.ownBlock (.slice (some ⟨ha, 0, none⟩) hs.length hcap) = some r → r < w2.heap.size) := Lib.hid (fun r e => ((HKa.out.r (rwH (.slice (some ⟨ha, 0, none⟩) hs.length hcap) hs) (by simp)).lt r e).2)
                        go_loopw [32, 33, 259] (fun a v i W => ∃ (j c x0 : Nat) (M : List Nat), j ≤ 12 ∧ i = .int .i64 j ∧ a = .int .i64 x0 ∧ Hid (x0 < ss.length) ∧ Hid (c ≤ c1 + 1 + j) ∧ Hid (WayTo ss j M) ∧ Hid (DrS w2 S d1 (.slice (some ⟨ha, 0, none⟩) hs.length hcap) hs c v (nats M) W)) (fun _ _ i _ => 12 - (intOf i).toNat)
                        case atStart => exact ⟨0, c1 + 1, a0, [], by omega, rfl, rfl, HA0, Lib.hid (by omega), Lib.hid (WayTo.nil ss), Lib.hid ⟨grown_refl _ _, HKa.out.dk, HKa.out.r (rwH (.slice (some ⟨ha, 0, none⟩) hs.length hcap) hs) (by simp), World.ownsRow_nil _ _ _ _⟩⟩
                        case round =>
                          as_aux_lemma =>
                            obtain ⟨j, c, x0, M, hj, rfl, rfl, HX0, HC2, HMT, HM⟩ := hrel
                            have HKx := Lib.hid (HKa.out.draw HM.out.gr HM.out.dk)
                            by_cases hlj : j < 12
                            · have hji : (j : Int) < 12 := by omega
                              have hx0 : x0 < ss.length := HX0.out
                              have hx1 : (x0 : Int) < (ss.length : Int) := by omega
                              have hx2 : (x0 : Int) < 1000 := by have := HLN.out; omega
                              obtain ⟨b0, b1, b2⟩ := HKx.out.box3 (q := q) (a := .int .i64 m) (b := .slice (some ⟨ha, 0, none⟩) hs.length hcap) (e := .slice (some ⟨sa, 0, none⟩) ss.length scap) (t := 25) (by simp)
                              have q0 := HKx.out.cellI (g := sa) (cap := scap) (l := ss) (by simp) hx0
                              obtain ⟨sk, hsk⟩ : ∃ sk, sk = ss.getD x0 0 := ⟨_, rfl⟩
                              rw [← hsk] at q0
                              by_cases h0 : sk = 0
                              · subst h0
                                have HSK := Lib.hid hsk
                                have HLT : Hid ((nats M).length ≤ 100) := Lib.hid (by have := HMT.out.len; rw [nats_length]; omega)
                                clear hsk
                                go_wp2_with (at_builtin; refine wpList_append_own _ rfl _ _ 23 rfl w2.heap.size 3 i0 (.int .i64 0) 1 8 Try.underlying23 HIN.out.1 HIN.out.2.1 HIN.out.2.2.1 HIN.out.2.2.2 rfl (by decide) _ _ _ rfl (HM.out.grow ((Below.refl _ wr).alloc (Nat.le_refl _) (.cells #[.int .i64 x0] 3))).o ⟨wr.heap.size, 0, none⟩ 1 1 [.int .i64 x0] rfl rfl (cell_one_new _ _ _) (by simp [Value.oneCell']) (by have := HLT.out; unfold maxLen; omega) (by have := HLT.out; omega) (by have := HM.out.gr.size; simp; omega) ?_; intro v' w3 hown3 hgrow _; have H3 := Lib.hid ((HM.out.grow ((Below.refl _ wr).alloc (Nat.le_refl _) (.cells #[.int .i64 x0] 3))).push HDS.out hown3 hgrow (fun r e => by cases e; exact HPL.out _ rfl)); clear hown3 hgrow; have HKy := Lib.hid (HKa.out.draw H3.out.gr H3.out.dk); obtain ⟨c0, c1', c2⟩ := HKy.out.box3 (q := q) (a := .int .i64 m) (b := .slice (some ⟨ha, 0, none⟩) hs.length hcap) (e := .slice (some ⟨sa, 0, none⟩) ss.length scap) (t := 25) (by simp))
                                clear q0 b0 b1 b2
                                have HM3 : Hid (DrS w2 S d1 (.slice (some ⟨ha, 0, none⟩) hs.length hcap) hs c v' (nats (M ++ [x0])) w3) := Lib.hid (by have h := H3.out; rw [nats_snoc]; exact h)
                                have HMT3 := Lib.hid (HMT.out.snoc hx0 HSK.out)
                                clear H3 HM HKx HMT HLT
                                have HRN : Hid (RS w3.heap.size w3 _ (nats (M ++ [x0])).length (ints (nats (M ++ [x0])))) := Lib.hid (RS.of_owns HM3.out.o)
                                refine (Crosses_any (B := w3.heap.size) (xs := nats (M ++ [x0])) (by rw [nats_length]; have := HMT3.out.len; omega) (Nat.le_refl _) (HKy.out.rsH (v := .slice (some ⟨ha, 0, none⟩) hs.length hcap) (hs := hs) (by simp)) (HKy.out.rsI (v := .slice (some ⟨sa, 0, none⟩) ss.length scap) (l := ss) (by simp)) HRN.out).mono ?_
                                rintro e w4 ⟨x2, y2, er2, rfl, hb, hca⟩
                                have HER := Lib.hid (cross_errs HO.out HMT3.out.land hca)
                                have HCA := Lib.hid hca
                                have HKz := Lib.hid (HKy.out.grow hb)
                                have HM4 := Lib.hid (HM3.out.grow hb)
                                clear hb hca HKy HM3 HRN c0 c1' c2
                                go_upto_region 49 with (fail)
                                have HM5 := Lib.hid (HM4.out.grow ((Below.refl _ w4).alloc (Nat.le_refl _) (.cells #[.int .i64 x2, .int .i64 y2] 54)))
                                have HKq := Lib.hid (HKz.out.lay (.cells #[.int .i64 x2, .int .i64 y2] 54))
                                obtain ⟨q34, hqe⟩ : ∃ q, q = w4.heap.size := ⟨_, rfl⟩
                                simp only [← hqe] at HKq ⊢
                                generalize w4.alloc (.cells #[.int .i64 x2, .int .i64 y2] 54) = w5 at HKq HM5 ⊢
                                clear HKz HM4 hqe
                                obtain ⟨e0, e1⟩ := HKq.out.box2 (q := q9) (a := .int .i64 x) (b := .int .i64 y) (t := 54) (by simp)
                                obtain ⟨f0, f1⟩ := HKq.out.box2 (q := q34) (a := .int .i64 x2) (b := .int .i64 y2) (t := 54) (by simp)
                                go_cut [300] from 277 to 300 (fun s300 wx => s300 = .bool false ∧ wx = w5)
                                case first =>
                                  as_aux_lemma =>
                                    rcases HER.out with he | he
                                    · subst he
                                      have hcc := prove_cross HSD.out HCA.out
                                      have z1 : decide (x2 < x) = false := by rw [decide_eq_false_iff_not]; omega
                                      have z2 : decide (y2 < y) = false := by rw [decide_eq_false_iff_not]; omega
                                      clear hcc
                                      go_wp2
                                      go_meet
                                      case rel => exact ⟨rfl, rfl⟩
                                    · subst he
                                      go_wp2
                                      go_meet
                                      case rel => exact ⟨rfl, rfl⟩
                                case rest =>
                                  as_aux_lemma =>
                                    obtain ⟨rfl, rfl⟩ := hcut
                                    clear e0 e1 f0 f1 HCA HER
                                    have hmm : 0 < m ∧ m ≤ 6 := by have := HM.out.c; omega
                                    have HMM := Lib.hid hmm
                                    obtain ⟨n1, hn1⟩ : ∃ n1 : Int, n1 = (x0 : Int) - 1 := ⟨_, rfl⟩
                                    obtain ⟨n2, hn2⟩ : ∃ n2 : Int, n2 = (x0 : Int) + 1 := ⟨_, rfl⟩
                                    obtain ⟨n3, hn3⟩ : ∃ n3 : Int, n3 = (x0 : Int) - (m : Int) := ⟨_, rfl⟩
                                    obtain ⟨n4, hn4'⟩ : ∃ n4 : Int, n4 = (x0 : Int) + (m : Int) := ⟨_, rfl⟩
                                    have ew1 : IntKind.i64.wrap ((x0 : Int) - 1) = n1 := by rw [hn1]; exact IntWalk.i64_in _ (by omega)
                                    have ew2 : IntKind.i64.wrap ((x0 : Int) + 1) = n2 := by rw [hn2]; exact IntWalk.i64_in _ (by omega)
                                    have ew3 : IntKind.i64.wrap ((x0 : Int) - (m : Int)) = n3 := by rw [hn3]; exact IntWalk.i64_in _ (by omega)
                                    have ew4 : IntKind.i64.wrap ((x0 : Int) + (m : Int)) = n4 := by rw [hn4']; exact IntWalk.i64_in _ (by omega)
                                    clear hn1 hn2 hn3 hn4' hmm
                                    go_upto_region 51 with (fail)
                                    have HM6 := Lib.hid (HM5.out.grow (Below.refl _ wc).drew)
                                    have HKr := Lib.hid (HKq.out.grow (Below.refl _ wc).drew)
                                    have hC : (fun W => W.cell? ⟨q, 0, none⟩ = some (.int .i64 m) ∧ W.cell? ⟨q, 1, none⟩ = some (.slice (some ⟨ha, 0, none⟩) hs.length hcap) ∧ W.cell? ⟨q, 2, none⟩ = some (.slice (some ⟨sa, 0, none⟩) ss.length scap)) wc.drew := HKr.out.box3 (q := q) (a := .int .i64 m) (b := .slice (some ⟨ha, 0, none⟩) hs.length hcap) (e := .slice (some ⟨sa, 0, none⟩) ss.length scap) (t := 25) (by simp)
                                    have hCC := Lib.hid hC
                                    clear HM5 HKq
                                    generalize hW0 : wc.drew = w6 at HM6 HKr hC hCC
                                    refine Lim.regC' (fun W => W.cell? ⟨q, 0, none⟩ = some (.int .i64 m) ∧ W.cell? ⟨q, 1, none⟩ = some (.slice (some ⟨ha, 0, none⟩) hs.length hcap) ∧ W.cell? ⟨q, 2, none⟩ = some (.slice (some ⟨sa, 0, none⟩) ss.length scap)) [] #[false, false, false, false, false, false, false, false, false, false, false, false, false, false, false, false, false, false] (by kernel_rfl) rfl ?_
                                    rw [hW0]; clear hW0
                                    refine Lim.stepR 0 (fun _ => trivial) rfl (by kernel_rfl) (fun _ _ _ _ h => h) hC rfl ?_; apply Exists.intro; refine ⟨?_, ?_⟩
                                    · rintro w ⟨r1, r2, r3⟩; go_simp; try with_reducible rfl
                                    simp only [Act.put, List.setIfInBounds_toArray, List.set_cons_succ, List.set_cons_zero]
                                    refine Lim.stepR 1 (fun _ => trivial) rfl (by kernel_rfl) (fun _ _ _ _ h => h) hC rfl ?_; apply Exists.intro; refine ⟨?_, ?_⟩
                                    · rintro w ⟨r1, r2, r3⟩; go_simp; try with_reducible rfl
                                    simp only [Act.put, List.setIfInBounds_toArray, List.set_cons_succ, List.set_cons_zero]
                                    refine Lim.stepR 2 (fun _ => trivial) rfl (by kernel_rfl) (fun _ _ _ _ h => h) hC rfl ?_; apply Exists.intro; refine ⟨?_, ?_⟩
                                    · rintro w ⟨r1, r2, r3⟩; go_simp; try with_reducible rfl
                                    simp only [Act.put, List.setIfInBounds_toArray, List.set_cons_succ, List.set_cons_zero]
                                    refine Lim.stepR 3 (fun _ => trivial) rfl (by kernel_rfl) (fun _ _ _ _ h => h) hC rfl ?_; apply Exists.intro; refine ⟨?_, ?_⟩
                                    · rintro w ⟨r1, r2, r3⟩; go_simp; try with_reducible rfl
                                    simp only [Act.put, List.setIfInBounds_toArray, List.set_cons_succ, List.set_cons_zero]
                                    refine Lim.stepR 4 (fun _ => trivial) rfl (by kernel_rfl) (fun _ _ _ _ h => h) hC rfl ?_; apply Exists.intro; refine ⟨?_, ?_⟩
                                    · rintro w ⟨r1, r2, r3⟩; go_simp; try with_reducible rfl
                                    simp only [Act.put, List.setIfInBounds_toArray, List.set_cons_succ, List.set_cons_zero]
                                    refine Lim.stepR 5 (fun _ => trivial) rfl (by kernel_rfl) (fun _ _ _ _ h => h) hC rfl ?_; apply Exists.intro; refine ⟨?_, ?_⟩
                                    · rintro w ⟨r1, r2, r3⟩; go_simp; try with_reducible rfl
                                    simp only [Act.put, List.setIfInBounds_toArray, List.set_cons_succ, List.set_cons_zero]
                                    refine Lim.stepR 6 (fun _ => trivial) rfl (by kernel_rfl) (fun _ _ _ _ h => h) hC rfl ?_; apply Exists.intro; refine ⟨?_, ?_⟩
                                    · rintro w ⟨r1, r2, r3⟩; go_simp; try with_reducible rfl
                                    simp only [Act.put, List.setIfInBounds_toArray, List.set_cons_succ, List.set_cons_zero]
                                    refine Lim.stepR 7 (fun _ => trivial) rfl (by kernel_rfl) (fun _ _ _ _ h => h) hC rfl ?_; apply Exists.intro; refine ⟨?_, ?_⟩
                                    · rintro w ⟨r1, r2, r3⟩; go_simp; try with_reducible rfl
                                    simp only [Act.put, List.setIfInBounds_toArray, List.set_cons_succ, List.set_cons_zero]
                                    refine Lim.stepR 8 (fun _ => trivial) rfl (by kernel_rfl) (fun _ _ _ _ h => h) hC rfl ?_; apply Exists.intro; refine ⟨?_, ?_⟩
                                    · rintro w ⟨r1, r2, r3⟩; go_simp; try with_reducible rfl
                                    simp only [Act.put, List.setIfInBounds_toArray, List.set_cons_succ, List.set_cons_zero]
                                    refine Lim.stepR 9 (fun _ => trivial) rfl (by kernel_rfl) (fun _ _ _ _ h => h) hC rfl ?_; apply Exists.intro; refine ⟨?_, ?_⟩
                                    · rintro w ⟨r1, r2, r3⟩; go_simp; try with_reducible rfl
                                    simp only [Act.put, List.setIfInBounds_toArray, List.set_cons_succ, List.set_cons_zero]
                                    refine Lim.stepR 10 (fun _ => trivial) rfl (by kernel_rfl) (fun _ _ _ _ h => h) hC rfl ?_; apply Exists.intro; refine ⟨?_, ?_⟩
                                    · rintro w ⟨r1, r2, r3⟩; go_simp; try with_reducible rfl
                                    simp only [Act.put, List.setIfInBounds_toArray, List.set_cons_succ, List.set_cons_zero]
                                    refine Lim.stepR 11 (fun _ => trivial) rfl (by kernel_rfl) (fun _ _ _ _ h => h) hC rfl ?_; apply Exists.intro; refine ⟨?_, ?_⟩
                                    · rintro w ⟨r1, r2, r3⟩; go_simp; try with_reducible rfl
                                    simp only [Act.put, List.setIfInBounds_toArray, List.set_cons_succ, List.set_cons_zero]
                                    refine Lim.stepR 13 (fun _ => trivial) rfl (by kernel_rfl) (fun _ _ _ _ h => h) hC rfl ?_; apply Exists.intro; refine ⟨?_, ?_⟩
                                    · rintro w ⟨r1, r2, r3⟩; go_simp; try with_reducible rfl
                                    simp only [Act.put, List.setIfInBounds_toArray, List.set_cons_succ, List.set_cons_zero]
                                    clear hC ew1 ew2 ew3 ew4
                                    refine Lim.parC [12, 14, 15, 16, 17] (fun done a W => ∃ x313 x315 x316 x317 x36, a = { tmps := #[.slice na ns.length nc, .slice ua ts.length uc, undef, undef, u4, .pointer (some ⟨w.heap.size, 0, none⟩), .pointer (some ⟨d1, 0, none⟩), .pointer (some ⟨q, 0, none⟩), .slice (some ⟨ta, 0, none⟩) T.length tcap, .pointer (some ⟨q9, 0, none⟩), .int .i64 0, .slice a11 LW.length c11, .int .i64 0, .slice a13 L.length c13, .int .i64 0, undef, undef, .pointer (some ⟨q17, 0, none⟩), .bool true, .bool false, .int .i64 0, .slice (some ⟨pP, 0, none⟩) ss.length ss.length, .slice (some ⟨pM, 0, none⟩) ss.length ss.length, u23, u24, .pointer (some ⟨q25, 0, none⟩), .pointer (some ⟨q26, 0, none⟩), u27, u28, u29, u30, u31, .int .i64 ↑x0, v', .pointer (some ⟨q34, 0, none⟩), .int .i64 er2, x36, .slice na ns.length nc, .pointer (some ⟨w.heap.size, 0, none⟩), .slice ua ts.length uc, .pointer (some ⟨d1, 0, none⟩), .tuple #[.agg #[.int .i64 ↑m, .slice (some ⟨ha, 0, none⟩) hs.length hcap, .slice (some ⟨sa, 0, none⟩) ss.length scap], .slice (some ⟨ta, 0, none⟩) T.length tcap], .pointer (some ⟨w.heap.size, 0, none⟩), .tuple #[.agg #[.int .i64 ↑m, .slice (some ⟨ha, 0, none⟩) hs.length hcap, .slice (some ⟨sa, 0, none⟩) ss.length scap], .slice (some ⟨ta, 0, none⟩) T.length tcap], .agg #[.int .i64 ↑m, .slice (some ⟨ha, 0, none⟩) hs.length hcap, .slice (some ⟨sa, 0, none⟩) ss.length scap], .slice (some ⟨ta, 0, none⟩) T.length tcap, .tuple #[.agg #[.int .i64 x, .int .i64 y], .int .i64 0], .agg #[.int .i64 ↑m, .slice (some ⟨ha, 0, none⟩) hs.length hcap, .slice (some ⟨sa, 0, none⟩) ss.length scap], .tuple #[.agg #[.int .i64 x, .int .i64 y], .int .i64 0], .agg #[.int .i64 x, .int .i64 y], .int .i64 0, .tuple #[.slice a11 LW.length c11, .int .i64 0], .agg #[.int .i64 ↑m, .slice (some ⟨ha, 0, none⟩) hs.length hcap, .slice (some ⟨sa, 0, none⟩) ss.length scap], .tuple #[.slice a11 LW.length c11, .int .i64 0], .slice a11 LW.length c11, .int .i64 0, .tuple #[.slice a13 L.length c13, .int .i64 0], .agg #[.int .i64 ↑m, .slice (some ⟨ha, 0, none⟩) hs.length hcap, .slice (some ⟨sa, 0, none⟩) ss.length scap], .tuple #[.slice a13 L.length c13, .int .i64 0], .slice a13 L.length c13, .int .i64 0, .int .i64 0, .int .i64 0, .bool false, .bool false, .int .i64 0, .int .i64 0, .bool false, .bool false, .int .i64 0, .bool false, undef, undef, undef, undef, undef, undef, undef, undef, undef, undef, undef, undef, undef, undef, undef, undef, undef, .tuple #[.agg #[.int .i64 x1, .int .i64 y1], .int .i64 0], .agg #[.int .i64 ↑m, .slice (some ⟨ha, 0, none⟩) hs.length hcap, .slice (some ⟨sa, 0, none⟩) ss.length scap], .slice a11 LW.length c11, .tuple #[.agg #[.int .i64 x1, .int .i64 y1], .int .i64 0], .agg #[.int .i64 x1, .int .i64 y1], .int .i64 0, .tuple #[.bool true, .int .i64 0], .agg #[.int .i64 ↑m, .slice (some ⟨ha, 0, none⟩) hs.length hcap, .slice (some ⟨sa, 0, none⟩) ss.length scap], .slice a13 L.length c13, .pointer (some ⟨q9, 0, none⟩), .int .i64 x, .tuple #[.bool true, .int .i64 0], .bool true, .int .i64 0, .tuple #[.bool false, .int .i64 0], .agg #[.int .i64 ↑m, .slice (some ⟨ha, 0, none⟩) hs.length hcap, .slice (some ⟨sa, 0, none⟩) ss.length scap], .slice a13 L.length c13, .pointer (some ⟨q9, 0, none⟩), .int .i64 x, .int .i64 (x + 1), .tuple #[.bool false, .int .i64 0], .bool false, .int .i64 0, .int .i64 0, .bool false, .bool false, .int .i64 0, .bool false, .bool false, .bool false, .int .i64 0, .bool false, .bool false, .bool false, .pointer (some ⟨q17, 1, none⟩), .int .i64 y1, .pointer (some ⟨q9, 1, none⟩), .int .i64 y, .bool false, .bool false, .bool false, .pointer (some ⟨q17, 0, none⟩), .int .i64 x1, .pointer (some ⟨q9, 0, none⟩), .int .i64 x, .bool false, .bool false, .bool false, .bool true, .bool false, .bool false, .bool false, .bool false, .bool false, .pointer (some ⟨q, 2, none⟩), .slice (some ⟨sa, 0, none⟩) ss.length scap, .int .i64 ↑ss.length, .slice (some ⟨pP, 0, none⟩) ss.length ss.length, .pointer (some ⟨q, 2, none⟩), .slice (some ⟨sa, 0, none⟩) ss.length scap, .int .i64 ↑ss.length, .slice (some ⟨pM, 0, none⟩) ss.length ss.length, .pointer (some ⟨q, 1, none⟩), .slice (some ⟨ha, 0, none⟩) hs.length hcap, .int .i64 ↑hs.length, .int .i64 ↑hs.length, .bool false, u155, u156, u157, u158, u159, u160, u161, u162, u163, u164, u165, u166, u167, u168, .tuple #[.agg #[.int .i64 x, .int .i64 x], .int .i64 0], .agg #[.int .i64 ↑m, .slice (some ⟨ha, 0, none⟩) hs.length hcap, .slice (some ⟨sa, 0, none⟩) ss.length scap], .slice (some ⟨pP, 0, none⟩) ss.length ss.length, .agg #[.int .i64 ↑m, hvwj1, svwj1], .tuple #[.agg #[.int .i64 x, .int .i64 x], .int .i64 0], .agg #[.int .i64 x, .int .i64 x], .int .i64 0, .tuple #[.agg #[.int .i64 y, .int .i64 y], .int .i64 0], .agg #[.int .i64 ↑m, .slice (some ⟨ha, 0, none⟩) hs.length hcap, .slice (some ⟨sa, 0, none⟩) ss.length scap], .slice (some ⟨pM, 0, none⟩) ss.length ss.length, .agg #[.int .i64 ↑m, hvwj4, svwj4], .tuple #[.agg #[.int .i64 y, .int .i64 y], .int .i64 0], .agg #[.int .i64 y, .int .i64 y], .int .i64 0, .int .i64 0, .bool false, .bool false, .int .i64 0, .bool false, .bool false, .bool false, .agg #[.int .i64 x, .int .i64 x], .pointer (some ⟨q9, 0, none⟩), .int .i64 x, .pointer (some ⟨q9, 0, none⟩), .int .i64 x, .agg #[.int .i64 x, .int .i64 x], .bool false, .bool false, .bool false, .agg #[.int .i64 y, .int .i64 y], .pointer (some ⟨q9, 1, none⟩), .int .i64 y, .pointer (some ⟨q9, 1, none⟩), .int .i64 y, .agg #[.int .i64 y, .int .i64 y], .bool false, .bool false, .int .i64 ↑n, .bool false, u209, u210, u211, u212, u213, u214, u215, u216, u217, u218, u219, u220, u221, u222, u223, u224, u225, u226, u227, u228, u229, u230, u231, u232, u233, u234, u235, u236, u237, u238, u239, u240, u241, u242, u243, u244, u245, u246, u247, u248, u249, u250, u251, .int .i64 ↑nw, .bool true, .pointer (some ⟨d1, 0, none⟩), .pointer (some ⟨q, 2, none⟩), .slice (some ⟨sa, 0, none⟩) ss.length scap, .int .i64 ↑ss.length, .int .i64 ↑a0, .int .i64 ↑j, .bool true, .pointer (some ⟨q, 2, none⟩), .slice (some ⟨sa, 0, none⟩) ss.length scap, .int .i64 ↑x0, .pointer (some ⟨sa, x0, none⟩), .int .i64 0, .bool false, u33, .int .i64 ↑x0, .slice (some ⟨wr.heap.size, 0, none⟩) 1 1, v', .tuple #[.agg #[.int .i64 x2, .int .i64 y2], .int .i64 er2], .agg #[.int .i64 ↑m, .slice (some ⟨ha, 0, none⟩) hs.length hcap, .slice (some ⟨sa, 0, none⟩) ss.length scap], v', .tuple #[.agg #[.int .i64 x2, .int .i64 y2], .int .i64 er2], .agg #[.int .i64 x2, .int .i64 y2], .int .i64 er2, u277, u278, u279, u280, u281, u282, u283, u284, u285, u286, u287, u288, u289, u290, u291, u292, u293, u294, u295, u296, u297, u298, u299, .bool false, .int .i64 ↑x0, .int .i64 n1, .int .i64 ↑x0, .int .i64 n2, .int .i64 ↑x0, .pointer (some ⟨q, 0, none⟩), .int .i64 ↑m, .int .i64 n3, .int .i64 ↑x0, .pointer (some ⟨q, 0, none⟩), .int .i64 ↑m, .int .i64 n4, x313, .pointer (some ⟨d1, 0, none⟩), x315, x316, x317, u318, u319, u320, u321, u322, u323, u324, u325, u326, u327, u328, u329, u330, u331, u332, u333, u334, u335, undef], defers := [] } ∧ Nx w6 d1 c n1 n2 n3 n4 done x313 x315 x316 x317 x36 W) (fun _ => trivial) (by kernel_rfl) rfl rfl ?hC ?step ?fin ⟨_, _, _, _, _, rfl, Nx.begin HKr.out.dk⟩
                                    case hC =>
                                      rintro done a W ⟨x313, x315, x316, x317, x36, rfl, HN⟩
                                      have hne : q ≠ d1 := by have h1 := (HKr.out.x ((q, Obj.cells #[.int .i64 m, .slice (some ⟨ha, 0, none⟩) hs.length hcap, .slice (some ⟨sa, 0, none⟩) ss.length scap] 25 (0, 0))) (by simp)).1; have h2 := HKr.out.o; omega
                                      exact ⟨cell_grown HN.g hCC.out.1 hne, cell_grown HN.g hCC.out.2.1 hne, cell_grown HN.g hCC.out.2.2 hne⟩
                                    case step =>
                                      intro i o hi ho done a W hd hdep hS K hK
                                      obtain ⟨x313, x315, x316, x317, x36, rfl, HN⟩ := hS
                                      have hdw : d1 < w6.heap.size := by have := HKr.out.o; omega
                                      simp only [List.mem_cons, List.not_mem_nil, or_false] at hi
                                      rcases hi with rfl | rfl | rfl | rfl | rfl
                                      · cases ho
                                        clear hdep
                                        go_simp
                                        refine hK _ _ ?_
                                        exact ⟨_, _, _, _, _, rfl, HN.st12 hd⟩
                                      · cases ho
                                        have hdk : Deck W d1 c := by have := HN.dk; rw [hd] at this; simpa using this
                                        clear hdep
                                        go_simp
                                        refine ⟨rfl, (callsIn_wide.2 (deck_draw (n := 4) hdk (by have h1 := HC.out; have h2 := HC2.out; omega))).mono ?_⟩
                                        rintro e W' ⟨r, rfl, hr, hdl⟩
                                        obtain ⟨r', rfl⟩ : ∃ k : Nat, r = k := ⟨r.toNat, by omega⟩
                                        refine hK _ _ ?_
                                        exact ⟨_, _, _, _, _, rfl, HN.st14 hd hdw (by have := hr.2.2; omega) hdl⟩
                                      · cases ho
                                        have h12 := hdep 12 (by kernel_rfl) (by simp)
                                        have h14 := hdep 14 (by kernel_rfl) (by simp)
                                        clear hdep
                                        obtain ⟨p, rfl, hp1, hp2⟩ := HN.d12 h12
                                        obtain ⟨r, rfl, hr⟩ := HN.d14 h14
                                        have hr1 : (r : Int) < 4 := by omega
                                        go_simp
                                        refine hK _ _ ?_
                                        exact ⟨_, _, _, _, _, rfl, HN.st15 hr hp1 hp2⟩
                                      · cases ho
                                        have h15 := hdep 15 (by kernel_rfl) (by simp)
                                        clear hdep
                                        obtain ⟨p, r, hr, rfl, hp1, hp2⟩ := HN.d15 h15
                                        obtain ⟨v, hv, hv4⟩ := four_cells hp2 hr
                                        go_simp
                                        refine hK _ _ ?_
                                        exact ⟨_, _, _, _, _, rfl, HN.st16 hd hv4⟩
                                      · cases ho
                                        have h16 := hdep 16 (by kernel_rfl) (by simp)
                                        clear hdep
                                        obtain ⟨v, rfl, hv⟩ := HN.d16 h16
                                        go_simp
                                        refine hK _ _ ?_
                                        exact ⟨_, _, _, _, _, rfl, HN.st17 h16⟩
                                    case fin =>
                                      rintro done a w7 hall ⟨x313, x315, x316, x317, x36, rfl, HN⟩
                                      obtain ⟨v, rfl, hv⟩ := HN.d16 (hall 16 (by simp))
                                      obtain rfl := (HN.d17 (hall 17 (by simp))).1
                                      obtain ⟨p, rfl, -, -⟩ := HN.d12 (hall 12 (by simp))
                                      obtain ⟨r, rfl, -⟩ := HN.d14 (hall 14 (by simp))
                                      obtain ⟨p', r', -, rfl, -, -⟩ := HN.d15 (hall 15 (by simp))
                                      have hdk : Deck w7 d1 (c + 1) := by have := HN.dk; rw [hall 14 (by simp)] at this; simpa using this
                                      have HM7 := Lib.hid (HM6.out.chance HDS.out HN.g hdk)
                                      have HKs := Lib.hid (HKr.out.draw HN.g hdk)
                                      clear hall HN hdk hv HM6 HKr hCC
                                      obtain ⟨b0, b1, b2⟩ := HKs.out.box3 (q := q) (a := .int .i64 m) (b := .slice (some ⟨ha, 0, none⟩) hs.length hcap) (e := .slice (some ⟨sa, 0, none⟩) ss.length scap) (t := 25) (by simp)
                                      by_cases hv0 : 0 ≤ v
                                      · have z0 : decide (0 ≤ v) = true := by rw [decide_eq_true_eq]; exact hv0
                                        by_cases hv1 : v < (ss.length : Int)
                                        · have z1 : decide (v < (ss.length : Int)) = true := by rw [decide_eq_true_eq]; exact hv1
                                          obtain ⟨nv, rfl⟩ : ∃ k : Nat, v = k := ⟨v.toNat, by omega⟩
                                          have HNV : Hid (nv < ss.length) := Lib.hid (by omega)
                                          clear hv0
                                          go_wp2_with fail
                                          refine (lbeside_any m x0 nv _ _ w7 (by have := HMM.out; omega) (by have := HX0.out; have := HLN.out; omega) (by have := HNV.out; have := HLN.out; omega)).mono ?_
                                          rintro e w8 ⟨rfl, hb⟩
                                          have HM8 := Lib.hid (HM7.out.grow hb)
                                          obtain ⟨bb, hbb⟩ : ∃ b, b = bes m x0 nv := ⟨_, rfl⟩
                                          rw [← hbb]
                                          clear hb HM7 HKs b0 b1 b2 hbb z0 z1
                                          cases bb with
                                          | true =>
                                            go_wp2_with fail
                                            go_roundw
                                            case rel => exact ⟨j + 1, c + 1, nv, M ++ [x0], by omega, by go_num, rfl, HNV, Lib.hid (by have := HC2.out; omega), HMT3, HM8⟩
                                            case measure => simp [intOf]; omega
                                          | false =>
                                            go_wp2_with fail
                                            go_roundw
                                            case rel => exact ⟨j + 1, c + 1, x0, M ++ [x0], by omega, by go_num, rfl, HX0, Lib.hid (by have := HC2.out; omega), HMT3, HM8⟩
                                            case measure => simp [intOf]; omega
                                        · have z1 : decide (v < (ss.length : Int)) = false := by rw [decide_eq_false_iff_not]; exact hv1
                                          clear hv0 hv1
                                          go_wp2_with fail
                                          go_roundw
                                          case rel => exact ⟨j + 1, c + 1, x0, M ++ [x0], by omega, by go_num, rfl, HX0, Lib.hid (by have := HC2.out; omega), HMT3, HM7⟩
                                          case measure => simp [intOf]; omega
                                      · have z0 : decide (0 ≤ v) = false := by rw [decide_eq_false_iff_not]; exact hv0
                                        clear hv0
                                        go_wp2_with fail
                                        go_roundw
                                        case rel => exact ⟨j + 1, c + 1, x0, M ++ [x0], by omega, by go_num, rfl, HX0, Lib.hid (by have := HC2.out; omega), HMT3, HM7⟩
                                        case measure => simp [intOf]; omega
                              · have z0 : (sk != 0) = true := by rw [bne_iff_ne]; exact h0
                                clear hsk h0
                                go_wp2_with fail
                                go_roundw
                                case rel => exact ⟨nw + 1, c, by omega, by go_num, Lib.hid (by have h1 := HC.out; have h2 := HC2.out; omega), HKx⟩
                                case measure => simp [intOf]; omega
                            · have hji : ¬ (j : Int) < 12 := by omega
                              have HJ := Lib.hid hj
                              clear hlj hj
                              go_wp2_with fail
                              go_roundw
                              case rel => exact ⟨nw + 1, c, by omega, by go_num, Lib.hid (by have h1 := HC.out; have h2 := HC2.out; have h3 := HJ.out; omega), HKx⟩
                              case measure => simp [intOf]; omega
                      · have hn4i : ¬ ((nw : Int) < 4) := by omega
                        clear hlt hn4
                        go_wp2_with fail
                        refine (awake_any _).mono ?_
                        rintro e wz ⟨rfl, hb⟩
                        have HB := Lib.hid (HK.out.b.trans (hb.mono HK.out.b.size))
                        clear hb
                        go_wp2
                        go_ret
                        exact ⟨rfl, HB.out⟩
  · subst h7
    obtain rfl := hn0 (by decide)
    have HKc := Lib.hid (HKb.out.grow hb)
    clear hb hans hn0 hn1 HKb b0 b1 b2
    obtain ⟨b0, b1, b2⟩ := HKc.out.box3 (q := q) (a := .int .i64 m) (b := .slice (some ⟨ha, 0, none⟩) hs.length hcap) (e := .slice (some ⟨sa, 0, none⟩) ss.length scap) (t := 25) (by simp)
    go_wp2_with fail
    refine (Ridge_any (B := w7.heap.size) (Nat.le_refl _) (HKc.out.rsH (v := .slice (some ⟨ha, 0, none⟩) hs.length hcap) (hs := hs) (by simp)) (HKc.out.rsI (v := .slice (some ⟨sa, 0, none⟩) ss.length scap) (l := ss) (by simp))).mono ?_
    rintro e w8 ⟨v13, x', y', er', L, rfl, hb, hans, ho, hn0, hn1⟩
    obtain ⟨rfl, rfl, rfl⟩ := HSD.out.unique hans
    have HKd := Lib.hid (HKc.out.grow hb)
    obtain ⟨a13, c13, rfl⟩ : ∃ a cap, v13 = .slice a L.length cap := row_form (r := rwN v13 L) ho
    clear hb hans ho hn0 hn1 HKc b0 b1 b2
    obtain ⟨b0, b1, b2⟩ := HKd.out.box3 (q := q) (a := .int .i64 m) (b := .slice (some ⟨ha, 0, none⟩) hs.length hcap) (e := .slice (some ⟨sa, 0, none⟩) ss.length scap) (t := 25) (by simp)
    go_wp2_with fail
    refine (Parts_any (B := w8.heap.size) (xs := []) (h := 10000) (by simp) (Nat.le_refl _) (HKd.out.rsH (v := .slice (some ⟨ha, 0, none⟩) hs.length hcap) (hs := hs) (by simp)) (HKd.out.rsI (v := .slice (some ⟨sa, 0, none⟩) ss.length scap) (l := ss) (by simp)) (RS.nil _ _)).mono ?_
    rintro e w9 ⟨dd, er1, rfl, hb, hp1⟩
    obtain ⟨rfl, rfl⟩ := prove_none HO.out HSD.out hp1
    have HKe := Lib.hid (HKd.out.grow hb)
    clear hb hp1 HKd b0 b1 b2
    go_wp2_with fail
    refine (awake_any _).mono ?_
    rintro e wz ⟨rfl, hb⟩
    have HB := Lib.hid (HKe.out.b.trans (hb.mono HKe.out.b.size))
    clear hb
    go_wp2
    go_ret
    exact ⟨rfl, HB.out⟩
end Go.Proofs.Ytdgibmgifgdpbaa
