/-
  Parts of the proof, in the order in which they build: PsBlame.
-/
import Derived.Deep.CutRange
import Derived.BigQuiet
import Derived.Maps.AppendAt
import Derived.Test.YtobmhamdkngehaaA60
import Derived.Test.YtobmhamdkngehaaA61
import Derived.Test.YtobmhamdkngehaaA20
import Derived.Test.YtobmhamdkngehaaA44
import Derived.Test.YtobmhamdkngehaaA9
import Derived.Test.YtobmhamdkngehaaB36
import Derived.Test.YtobmhamdkngehaaA63
import Derived.Test.YtobmhamdkngehaaA10
set_option linter.unusedVariables false
set_option linter.unusedSimpArgs false
namespace Go.Proofs.Ytobmhamdkngehaa
open Go.RowKit Go.Shelf
open Lim

set_option maxRecDepth 20000 in
set_option maxHeartbeats 8000000 in
theorem pblamed_any {B : Nat} {nv : Value} {ns : List Int} {a0 a1 : Int} {w : World} (hB : B ≤ w.heap.size) (hn : RS B w nv ns.length (u8s ns)) (hnu : ∀ x ∈ ns, 0 ≤ x ∧ x ≤ 255) :
  Calls Try.prog 8 #[nv, .int .i64 a0, .int .i64 a1] w fun e w' => e = .returned (.bool true) ∧ Below w.heap.size w w' := by
 have HA := Lib.hid (And.intro hB (And.intro hn hnu))
 obtain ⟨na, nc, rfl, -⟩ := hn
 clear hB hnu
 go_enter Try.func8, Try.ntmps8
 go_wp2_with fail
 refine (of_dk HA.out.1 HA.out.2.1 HA.out.2.2).mono ?_
 rintro e w1 ⟨rfl, hd0, hb1, hs1⟩
 have HD0 := Lib.hid (And.intro hd0 (And.intro hb1 hs1))
 clear hd0 hb1 hs1
 go_wp2_with fail
 refine (stoned_any (M := 9) (d := w.heap.size) (c0 := 0) (HD0.out.1.deck (n := 0) (by omega)) (by omega) (by omega)).mono ?_
 rintro e w3 ⟨rv, fv, mv, lv, dd, T, L, c', rfl, hP, hdk, -, hgr, ho, hoo⟩
 have HP := Lib.hid hP
 have HLN : Hid (dd.m.length = L.length ∧ dd.f.length + 1 = dd.m.length ∧ 1 ≤ dd.m.length ∧ dd.m.length ≤ 10 ∧ 1 ≤ dd.r.length ∧ dd.r.length ≤ 9) := Lib.hid (by have h1 := hP.lens; have h2 := hP.n; omega)
 have HK0 := Lib.hid (Mem.start1Q HD0.out.2.1 HD0.out.2.2 hgr hdk ho hoo)
 obtain ⟨S, hSe⟩ : ∃ S, S = w1.heap.size := ⟨_, rfl⟩
 rw [← hSe, ← HLN.out.1] at HK0
 obtain ⟨rg, rc, rfl⟩ : ∃ g cap, rv = .slice (some ⟨g, 0, none⟩) dd.r.length cap := form_pos (r := rwS rv dd.r.length dd.r) (HK0.out.q _ (by simp)) (show 0 < dd.r.length by have := HLN.out; omega)
 obtain ⟨fa, fc, rfl⟩ : ∃ a c, fv = .slice a dd.f.length c := row_form (r := rwS fv dd.f.length dd.f) (HK0.out.q _ (by simp))
 obtain ⟨mg, mc, rfl⟩ : ∃ g cap, mv = .slice (some ⟨g, 0, none⟩) dd.m.length cap := form_pos (r := rwI mv dd.m.length dd.m) (HK0.out.q _ (by simp)) (show 0 < dd.m.length by have := HLN.out; omega)
 obtain ⟨lg, lc, rfl⟩ : ∃ g cap, lv = .slice (some ⟨g, 0, none⟩) dd.m.length cap := form_pos (r := rwI lv dd.m.length (L.map Int.ofNat)) (HK0.out.q _ (by simp)) (show 0 < dd.m.length by have := HLN.out; omega)
 clear hP hdk hgr ho hoo hSe HD0 HA
 have HKq : Hid (Mem w S w.heap.size c' [rwI (.slice (some ⟨lg, 0, none⟩) dd.m.length lc) dd.m.length (L.map Int.ofNat), rwI (.slice (some ⟨mg, 0, none⟩) dd.m.length mc) dd.m.length dd.m, rwS (.slice (some ⟨rg, 0, none⟩) dd.r.length rc) dd.r.length dd.r] [rwS (.slice fa dd.f.length fc) dd.f.length dd.f] [] w3) := Lib.hid ((HK0.out.permQ (.cons _ ((List.Perm.swap _ _ _).trans (.cons _ (.swap _ _ _))))).freeze.freeze.freeze)
 clear HK0
 go_upto_region 2 with (fail)
 obtain ⟨w4, hw4⟩ : ∃ w4, w4 = w3.alloc (.cells #[.slice (some ⟨rg, 0, none⟩) dd.r.length rc] 41) := ⟨_, rfl⟩
 obtain ⟨w5, hw5⟩ : ∃ w5, w5 = w4.alloc (.cells #[.slice fa dd.f.length fc, .slice (some ⟨mg, 0, none⟩) dd.m.length mc] 43) := ⟨_, rfl⟩
 obtain ⟨q7, hq7⟩ : ∃ q, q = w3.heap.size := ⟨_, rfl⟩
 obtain ⟨q8, hq8⟩ : ∃ q, q = q7 + 1 := ⟨_, rfl⟩
 have HK1 : Hid (Mem w S w.heap.size c' [rwI (.slice (some ⟨lg, 0, none⟩) dd.m.length lc) dd.m.length (L.map Int.ofNat), rwI (.slice (some ⟨mg, 0, none⟩) dd.m.length mc) dd.m.length dd.m, rwS (.slice (some ⟨rg, 0, none⟩) dd.r.length rc) dd.r.length dd.r] [rwS (.slice fa dd.f.length fc) dd.f.length dd.f] [(q8, Obj.cells #[.slice fa dd.f.length fc, .slice (some ⟨mg, 0, none⟩) dd.m.length mc] 43 (0, 0)), (q7, Obj.cells #[.slice (some ⟨rg, 0, none⟩) dd.r.length rc] 41 (0, 0))] w5) := Lib.hid (by
  have h := (HKq.out.lay (.cells #[.slice (some ⟨rg, 0, none⟩) dd.r.length rc] 41)).lay (.cells #[.slice fa dd.f.length fc, .slice (some ⟨mg, 0, none⟩) dd.m.length mc] 43)
  have s1 : w4.heap.size = q8 := by rw [hw4, hq8, hq7]; simp
  rw [← hw4, ← hw5, s1, ← hq7] at h
  exact h)
 simp only [← hw4, ← hw5, ← hq7, ← hq8]
 clear hw4 hw5 hq7 hq8 HKq
 go_wp2_with fail
 refine (fold_any (v := a0) (n := (dd.m.length : Int)) w5 (by have := HLN.out; omega)).mono ?_
 rintro e w' ⟨r, rfl, hr, rfl⟩
 obtain ⟨k, hkk⟩ : ∃ k : Nat, r = (k : Int) := ⟨r.toNat, by omega⟩
 subst hkk
 have HKM : Hid (k < dd.m.length) := Lib.hid (by omega)
 clear hr
 by_cases hm1 : dd.m.length = 1
 ·have de : ((dd.m.length : Int) == 1) = true := by rw [beq_iff_eq]; omega
  clear hm1
  go_wp2_with fail
  refine (awake_any _).mono ?_
  rintro e wz ⟨rfl, hb⟩
  have HB := Lib.hid (HK1.out.b.trans (hb.mono HK1.out.b.size))
  clear hb
  go_wp2
  go_ret
  exact ⟨rfl, HB.out⟩
 ·have de : ((dd.m.length : Int) == 1) = false := by rw [beq_eq_false_iff_ne]; omega
  have HM2 : Hid (2 ≤ dd.m.length) := Lib.hid (by have := HLN.out; omega)
  obtain ⟨fg, fcap, hff⟩ : ∃ g c, (Value.slice fa dd.f.length fc) = .slice (some ⟨g, 0, none⟩) dd.f.length c := form_pos (r := rwS (.slice fa dd.f.length fc) dd.f.length dd.f) (HK1.out.q _ (by simp)) (show 0 < dd.f.length by have h1 := HM2.out; have h2 := HLN.out; omega)
  cases hff
  clear hm1
  go_wp2_with fail
  clear de
  refine (fold_any (v := a1) (n := 80) w' (by omega)).mono ?_
  rintro e w6 ⟨r2, rfl, hr2, rfl⟩
  obtain ⟨m0, hm0⟩ : ∃ x, r2 - 40 = x := ⟨_, rfl⟩
  have ew : IntKind.i64.wrap (r2 - 40) = m0 := by rw [IntWalk.i64_in _ (by omega)]; exact hm0
  have HM0 : Hid (-40 ≤ m0 ∧ m0 ≤ 39) := Lib.hid (by omega)
  clear hm0 hr2
  go_upto_if 42 with (fail)
  clear ew
  go_cut [11, 12] from 42 to 67 (fun s11 _ wx => ∃ (mv : Int) (F : List (Int × Int)), s11 = .int .i64 mv ∧ Hid (MovA dd.f F k mv) ∧ Hid (Mem w S w.heap.size c' [rwI (.slice (some ⟨lg, 0, none⟩) dd.m.length lc) dd.m.length (L.map Int.ofNat), rwI (.slice (some ⟨mg, 0, none⟩) dd.m.length mc) dd.m.length dd.m, rwS (.slice (some ⟨rg, 0, none⟩) dd.r.length rc) dd.r.length dd.r] [rwS (.slice (some ⟨fg, 0, none⟩) dd.f.length fc) dd.f.length F] [(q8, Obj.cells #[.slice (some ⟨fg, 0, none⟩) dd.f.length fc, .slice (some ⟨mg, 0, none⟩) dd.m.length mc] 43 (0, 0)), (q7, Obj.cells #[.slice (some ⟨rg, 0, none⟩) dd.r.length rc] 41 (0, 0))] wx))
  case first =>
   as_aux_lemma =>
    by_cases hk0 : 0 < k
    ·obtain ⟨j, hj⟩ : ∃ j, j = k - 1 := ⟨_, rfl⟩
     have hjl : j < dd.f.length := by have h1 := HKM.out; have h2 := HLN.out; omega
     have hjk : k = j + 1 := by omega
     have HJK := Lib.hid hjk
     have hjl2 : (j : Int) < (dd.f.length : Int) := by omega
     have ek : IntKind.i64.wrap ((k : Int) - 1) = (j : Int) := by rw [IntWalk.i64_in _ (by have := HLN.out; omega)]; omega
     have ek2 : wrap64 ((k : Int) - 1) = (j : Int) := by rw [IntWalk.wrap64_in _ (by have := HLN.out; omega)]; omega
     have b1 := (box_cell HK1.out (cs := #[.slice (some ⟨fg, 0, none⟩) dd.f.length fc, .slice (some ⟨mg, 0, none⟩) dd.m.length mc]) (t := 43) (p := q8) (j := 0) (by simp) rfl).1
     obtain ⟨k0, k1⟩ := HK1.out.cellS (g := fg) (n := dd.f.length) (cap := fc) (l := dd.f) (.inr (by simp)) (j := j) hjl
     have hsp := HP.out.spans.2.1 _ (getD_mem (z := (0, 0)) hjl)
     obtain ⟨sa, hsa⟩ : ∃ x, x = (dd.f.getD j (0, 0)).1 := ⟨_, rfl⟩
     obtain ⟨sb, hsb⟩ : ∃ x, x = (dd.f.getD j (0, 0)).2 := ⟨_, rfl⟩
     rw [← hsa] at k0 hsp
     rw [← hsb] at k1 hsp
     have HSP := Lib.hid hsp
     have HSA := Lib.hid (And.intro hsa hsb)
     clear hsa hsb hsp hj hjk
     go_upto_region 8 with (fail)
     clear k0 k1 b1
     have HK2 := Lib.hid (HK1.out.lay (.cells #[.int .i64 sa, .int .i64 sb] 25))
     obtain ⟨qs, hqe⟩ : ∃ q, q = w6.heap.size := ⟨_, rfl⟩
     simp only [← hqe] at HK2 ⊢
     generalize w6.alloc (.cells #[.int .i64 sa, .int .i64 sb] 25) = w7 at HK2 ⊢
     clear HK1 hqe
     have e0 := (box_cell HK2.out (cs := #[.int .i64 sa, .int .i64 sb]) (t := 25) (p := qs) (j := 0) (by simp) rfl).1
     obtain ⟨mv, hmv⟩ : ∃ x, x = max m0 (1 - sa) := ⟨_, rfl⟩
     have ew : IntKind.i64.wrap (1 - sa) = 1 - sa := IntWalk.i64_in _ (by have := HSP.out; omega)
     have HMV : Hid (-40 ≤ mv ∧ mv ≤ 39 ∧ 1 ≤ sa + mv) := Lib.hid (by have h1 := HSP.out; have h2 := HM0.out; omega)
     go_upto_region 9 with (fail)
     rw [← hmv]
     clear hmv e0 ew
     have ex : IntKind.i64.wrap (sa + mv) = sa + mv := IntWalk.i64_in _ (by have h1 := HSP.out; have h2 := HMV.out; omega)
     have ey : IntKind.i64.wrap (sb + mv) = sb + mv := IntWalk.i64_in _ (by have h1 := HSP.out; have h2 := HMV.out; omega)
     have HCF : Hid (∀ F W, Mem w S w.heap.size c' [rwI (.slice (some ⟨lg, 0, none⟩) dd.m.length lc) dd.m.length (L.map Int.ofNat), rwI (.slice (some ⟨mg, 0, none⟩) dd.m.length mc) dd.m.length dd.m, rwS (.slice (some ⟨rg, 0, none⟩) dd.r.length rc) dd.r.length dd.r] [rwS (.slice (some ⟨fg, 0, none⟩) dd.f.length fc) dd.f.length F] ((qs, Obj.cells #[.int .i64 sa, .int .i64 sb] 25 (0, 0)) :: [(q8, Obj.cells #[.slice (some ⟨fg, 0, none⟩) dd.f.length fc, .slice (some ⟨mg, 0, none⟩) dd.m.length mc] 43 (0, 0)), (q7, Obj.cells #[.slice (some ⟨rg, 0, none⟩) dd.r.length rc] 41 (0, 0))]) W → (fun W => W.cell? ⟨q8, 0, none⟩ = some (.slice (some ⟨fg, 0, none⟩) dd.f.length fc) ∧ W.cell? ⟨qs, 0, none⟩ = some (.int .i64 sa) ∧ W.cell? ⟨qs, 1, none⟩ = some (.int .i64 sb)) W) := Lib.hid fun F W h => ⟨(box_cell h (cs := #[.slice (some ⟨fg, 0, none⟩) dd.f.length fc, .slice (some ⟨mg, 0, none⟩) dd.m.length mc]) (t := 43) (p := q8) (j := 0) (by simp) rfl).1, (box_cell h (cs := #[.int .i64 sa, .int .i64 sb]) (t := 25) (p := qs) (j := 0) (by simp) rfl).1, (box_cell h (cs := #[.int .i64 sa, .int .i64 sb]) (t := 25) (p := qs) (j := 1) (by simp) rfl).1⟩
     have HKd := Lib.hid HK2.out.drew
     have hC := HCF.out _ _ HKd.out
     clear HK2
     generalize hW0 : w7.drew = W3 at HKd hC
     refine Lim.regC' (fun W => W.cell? ⟨q8, 0, none⟩ = some (.slice (some ⟨fg, 0, none⟩) dd.f.length fc) ∧ W.cell? ⟨qs, 0, none⟩ = some (.int .i64 sa) ∧ W.cell? ⟨qs, 1, none⟩ = some (.int .i64 sb)) [] #[false, false, false, false, false, false, false, false, false, false, false, false, false, false, false] (by kernel_rfl) rfl ?_
     rw [hW0]; clear hW0
     refine Lim.stepR 0 (fun _ => trivial) rfl (by kernel_rfl) (fun _ _ _ _ h => h) hC rfl ?_; apply Exists.intro; refine ⟨?_, ?_⟩
     ·rintro w ⟨r0, r1, r2⟩; go_simp; try with_reducible rfl
     simp only [Act.put, List.setIfInBounds_toArray, List.set_cons_succ, List.set_cons_zero]
     refine Lim.stepR 1 (fun _ => trivial) rfl (by kernel_rfl) (fun _ _ _ _ h => h) hC rfl ?_; apply Exists.intro; refine ⟨?_, ?_⟩
     ·rintro w ⟨r0, r1, r2⟩; go_simp; try with_reducible rfl
     simp only [Act.put, List.setIfInBounds_toArray, List.set_cons_succ, List.set_cons_zero]
     refine Lim.stepR 2 (fun _ => trivial) rfl (by kernel_rfl) (fun _ _ _ _ h => h) hC rfl ?_; apply Exists.intro; refine ⟨?_, ?_⟩
     ·rintro w ⟨r0, r1, r2⟩; go_simp; try with_reducible rfl
     simp only [Act.put, List.setIfInBounds_toArray, List.set_cons_succ, List.set_cons_zero]
     refine Lim.stepR 3 (fun _ => trivial) rfl (by kernel_rfl) (fun _ _ _ _ h => h) hC rfl ?_; apply Exists.intro; refine ⟨?_, ?_⟩
     ·rintro w ⟨r0, r1, r2⟩; go_simp; try with_reducible rfl
     simp only [Act.put, List.setIfInBounds_toArray, List.set_cons_succ, List.set_cons_zero]
     refine Lim.stepR 4 (fun _ => trivial) rfl (by kernel_rfl) (fun _ _ _ _ h => h) hC rfl ?_; apply Exists.intro; refine ⟨?_, ?_⟩
     ·rintro w ⟨r0, r1, r2⟩; go_simp; try with_reducible rfl
     simp only [Act.put, List.setIfInBounds_toArray, List.set_cons_succ, List.set_cons_zero]
     refine Lim.stepR 5 (fun _ => trivial) rfl (by kernel_rfl) (fun _ _ _ _ h => h) hC rfl ?_; apply Exists.intro; refine ⟨?_, ?_⟩
     ·rintro w ⟨r0, r1, r2⟩; go_simp; try with_reducible rfl
     simp only [Act.put, List.setIfInBounds_toArray, List.set_cons_succ, List.set_cons_zero]
     refine Lim.stepR 6 (fun _ => trivial) rfl (by kernel_rfl) (fun _ _ _ _ h => h) hC rfl ?_; apply Exists.intro; refine ⟨?_, ?_⟩
     ·rintro w ⟨r0, r1, r2⟩; go_simp; try with_reducible rfl
     simp only [Act.put, List.setIfInBounds_toArray, List.set_cons_succ, List.set_cons_zero]
     refine Lim.stepR 7 (fun _ => trivial) rfl (by kernel_rfl) (fun _ _ _ _ h => h) hC rfl ?_; apply Exists.intro; refine ⟨?_, ?_⟩
     ·rintro w ⟨r0, r1, r2⟩; go_simp; try with_reducible rfl
     simp only [Act.put, List.setIfInBounds_toArray, List.set_cons_succ, List.set_cons_zero]
     refine Lim.stepR 8 (fun _ => trivial) rfl (by kernel_rfl) (fun _ _ _ _ h => h) hC rfl ?_; apply Exists.intro; refine ⟨?_, ?_⟩
     ·rintro w ⟨r0, r1, r2⟩; go_simp; try with_reducible rfl
     simp only [Act.put, List.setIfInBounds_toArray, List.set_cons_succ, List.set_cons_zero]
     refine Lim.stepR 9 (fun _ => trivial) rfl (by kernel_rfl) (fun _ _ _ _ h => h) hC rfl ?_; apply Exists.intro; refine ⟨?_, ?_⟩
     ·rintro w ⟨r0, r1, r2⟩; go_simp; try with_reducible rfl
     simp only [Act.put, List.setIfInBounds_toArray, List.set_cons_succ, List.set_cons_zero]
     refine Lim.stepR 10 (fun _ => trivial) rfl (by kernel_rfl) (fun _ _ _ _ h => h) hC rfl ?_; apply Exists.intro; refine ⟨?_, ?_⟩
     ·rintro w ⟨r0, r1, r2⟩; go_simp; try with_reducible rfl
     simp only [Act.put, List.setIfInBounds_toArray, List.set_cons_succ, List.set_cons_zero]
     refine Lim.stepR 11 (fun _ => trivial) rfl (by kernel_rfl) (fun _ _ _ _ h => h) hC rfl ?_; apply Exists.intro; refine ⟨?_, ?_⟩
     ·rintro w ⟨r0, r1, r2⟩; go_simp; try with_reducible rfl
     simp only [Act.put, List.setIfInBounds_toArray, List.set_cons_succ, List.set_cons_zero]
     refine Lim.stepE 12 (fun _ => trivial) rfl (by kernel_rfl) rfl (fun K hK => ?_)   -- E call
     go_simp
     refine ⟨rfl, (callsIn_wide.2 (span_any (sa + mv) (sb + mv) _)).mono ?_⟩
     rintro e W4 ⟨rfl, hb⟩
     have HKe := Lib.hid (HKd.out.grow hb)
     have hC2 := HCF.out _ _ HKe.out
     refine hK _ _ hC2 ?_
     clear hK hb HKd hC
     simp only [Act.put, List.setIfInBounds_toArray, List.set_cons_succ, List.set_cons_zero]
     refine Lim.stepR 13 (fun _ => trivial) rfl (by kernel_rfl) (fun _ _ _ _ h => h) hC2 rfl ?_; apply Exists.intro; refine ⟨?_, ?_⟩
     ·rintro w ⟨r0, r1, r2⟩; go_simp; try with_reducible rfl
     simp only [Act.put, List.setIfInBounds_toArray, List.set_cons_succ, List.set_cons_zero]
     refine Lim.stepE 14 (fun _ => trivial) rfl (by kernel_rfl) rfl (fun K hK => ?_)   -- E store
     obtain ⟨z0, z1⟩ := HKe.out.cellS (g := fg) (n := dd.f.length) (cap := fc) (l := dd.f) (.inr (by simp)) (j := j) (hjl)
     have y0 : W4.frozen? ⟨fg, j * 2, none⟩ = false := row_frz (HKe.out.q (rwS (.slice (some ⟨fg, 0, none⟩) dd.f.length fc) dd.f.length dd.f) (by simp)) rfl _
     have y1 : W4.frozen? ⟨fg, j * 2 + 1, none⟩ = false := row_frz (HKe.out.q (rwS (.slice (some ⟨fg, 0, none⟩) dd.f.length fc) dd.f.length dd.f) (by simp)) rfl _
     go_simp
     have HK3 : Hid (Mem w S w.heap.size c' [rwI (.slice (some ⟨lg, 0, none⟩) dd.m.length lc) dd.m.length (L.map Int.ofNat), rwI (.slice (some ⟨mg, 0, none⟩) dd.m.length mc) dd.m.length dd.m, rwS (.slice (some ⟨rg, 0, none⟩) dd.r.length rc) dd.r.length dd.r] [rwS (.slice (some ⟨fg, 0, none⟩) dd.f.length fc) dd.f.length (dd.f.set j (sa + mv, sb + mv))] ((qs, Obj.cells #[.int .i64 sa, .int .i64 sb] 25 (0, 0)) :: [(q8, Obj.cells #[.slice (some ⟨fg, 0, none⟩) dd.f.length fc, .slice (some ⟨mg, 0, none⟩) dd.m.length mc] 43 (0, 0)), (q7, Obj.cells #[.slice (some ⟨rg, 0, none⟩) dd.r.length rc] 41 (0, 0))]) ((W4.setCell ⟨fg, j * 2, none⟩ (.int .i64 (sa + mv))).setCell ⟨fg, j * 2 + 1, none⟩ (.int .i64 (sb + mv)))) := Lib.hid (Mem.setS (Q1 := []) HKe.out j (sa + mv) (sb + mv))
     have hC3 := HCF.out _ _ HK3.out
     refine hK _ _ hC3 ?_
     clear hK z0 z1 y0 y1 HKe hC2
     generalize (W4.setCell ⟨fg, j * 2, none⟩ (.int .i64 (sa + mv))).setCell ⟨fg, j * 2 + 1, none⟩ (.int .i64 (sb + mv)) = w9 at HK3 hC3 ⊢
     simp only [Act.put, List.setIfInBounds_toArray, List.set_cons_succ, List.set_cons_zero]
     refine Lim.stepD (by kernel_rfl) ?_
     clear hC3 HCF
     clear ex ey
     go_wp2
     go_meet
     case rel => exact ⟨mv, dd.f.set j (sa + mv, sb + mv), rfl, Lib.hid ⟨HMV.out.1, HMV.out.2.1, .inr ⟨hk0, by rw [show k - 1 = j by have := HJK.out; omega, ← HSA.out.1, ← HSA.out.2], by rw [show k - 1 = j by have := HJK.out; omega, ← HSA.out.1]; exact HMV.out.2.2⟩⟩, Lib.hid (HK3.out.less (fun _ h => h) (List.Sublist.refl _) (.cons _ (List.Sublist.refl _)))⟩
    ·have HK00 : Hid (k = 0) := Lib.hid (by omega)
     have hki0 : ¬ ((0 : Int) < (k : Int)) := by omega
     clear hk0
     go_wp2
     go_meet
     case rel => exact ⟨m0, dd.f, rfl, Lib.hid ⟨HM0.out.1, HM0.out.2, .inl ⟨HK00.out, rfl⟩⟩, HK1⟩
  case rest =>
   as_aux_lemma =>
    obtain ⟨mv, F, rfl, HMA, HK2⟩ := hcut
    clear HK1
    have b1 := (box_cell HK2.out (cs := #[.slice (some ⟨fg, 0, none⟩) dd.f.length fc, .slice (some ⟨mg, 0, none⟩) dd.m.length mc]) (t := 43) (p := q8) (j := 0) (by simp) rfl).1
    go_upto_if 72 with (fail)
    go_cut [13] from 72 to 126 (fun _ wx => ∃ F, Hid (MovedF dd.f F k) ∧ Hid (Mem w S w.heap.size c' [rwI (.slice (some ⟨lg, 0, none⟩) dd.m.length lc) dd.m.length (L.map Int.ofNat), rwI (.slice (some ⟨mg, 0, none⟩) dd.m.length mc) dd.m.length dd.m, rwS (.slice (some ⟨rg, 0, none⟩) dd.r.length rc) dd.r.length dd.r] [rwS (.slice (some ⟨fg, 0, none⟩) dd.f.length fc) dd.f.length F] [(q8, Obj.cells #[.slice (some ⟨fg, 0, none⟩) dd.f.length fc, .slice (some ⟨mg, 0, none⟩) dd.m.length mc] 43 (0, 0)), (q7, Obj.cells #[.slice (some ⟨rg, 0, none⟩) dd.r.length rc] 41 (0, 0))] wx))
    case first =>
     as_aux_lemma =>
      by_cases hkl : k < dd.f.length
      ·have hkl2 : (k : Int) < (dd.f.length : Int) := by omega
       obtain ⟨k0, k1⟩ := HK2.out.cellS (g := fg) (n := dd.f.length) (cap := fc) (l := F) (.inr (by simp)) (j := k) (by rw [HMA.out.len]; exact hkl)
       rw [HMA.out.at hkl] at k0 k1
       have hsp := HP.out.spans.2.1 _ (getD_mem (z := (0, 0)) hkl)
       obtain ⟨sa, hsa⟩ : ∃ x, x = (dd.f.getD k (0, 0)).1 := ⟨_, rfl⟩
       obtain ⟨sb, hsb⟩ : ∃ x, x = (dd.f.getD k (0, 0)).2 := ⟨_, rfl⟩
       rw [← hsa] at k0 hsp
       rw [← hsb] at k1 hsp
       have HSP := Lib.hid hsp
       have HSA := Lib.hid (And.intro hsa hsb)
       clear hsa hsb hsp
       go_upto_region 12 with (fail)
       clear k0 k1 b1
       have HK3 := Lib.hid (HK2.out.lay (.cells #[.int .i64 sa, .int .i64 sb] 25))
       obtain ⟨qs, hqe⟩ : ∃ q, q = wc.heap.size := ⟨_, rfl⟩
       simp only [← hqe] at HK3 ⊢
       generalize wc.alloc (.cells #[.int .i64 sa, .int .i64 sb] 25) = w7 at HK3 ⊢
       clear HK2 hqe
       have e0 := (box_cell HK3.out (cs := #[.int .i64 sa, .int .i64 sb]) (t := 25) (p := qs) (j := 0) (by simp) rfl).1
       have em : IntKind.i64.wrap (sa - mv) = sa - mv := IntWalk.i64_in _ (by have h1 := HSP.out; have h2 := HMA.out.1; have h3 := HMA.out.2.1; omega)
       have ep : IntKind.i64.wrap (sa + mv) = sa + mv := IntWalk.i64_in _ (by have h1 := HSP.out; have h2 := HMA.out.1; have h3 := HMA.out.2.1; omega)
       have em2 : IntKind.i64.wrap (sb - mv) = sb - mv := IntWalk.i64_in _ (by have h1 := HSP.out; have h2 := HMA.out.1; have h3 := HMA.out.2.1; omega)
       have ep2 : IntKind.i64.wrap (sb + mv) = sb + mv := IntWalk.i64_in _ (by have h1 := HSP.out; have h2 := HMA.out.1; have h3 := HMA.out.2.1; omega)
       by_cases hk0 : 0 < k
       ·have hki0 : (0 : Int) < (k : Int) := by omega
        have hke : ((k : Int) == 0) = false := by rw [beq_eq_false_iff_ne]; omega
        have HK0 := Lib.hid hk0
        by_cases hlo : sa - mv < 1
        ·go_wp2_with fail
         refine (awake_any _).mono ?_
         rintro e wz ⟨rfl, hb⟩
         have HB := Lib.hid (HK3.out.b.trans (hb.mono HK3.out.b.size))
         clear hb
         go_wp2
         go_ret
         exact ⟨rfl, HB.out⟩
        ·have HLO := Lib.hid hlo
         go_upto_region 15 with (fail)
         clear e0
         have HCF : Hid (∀ F W, Mem w S w.heap.size c' [rwI (.slice (some ⟨lg, 0, none⟩) dd.m.length lc) dd.m.length (L.map Int.ofNat), rwI (.slice (some ⟨mg, 0, none⟩) dd.m.length mc) dd.m.length dd.m, rwS (.slice (some ⟨rg, 0, none⟩) dd.r.length rc) dd.r.length dd.r] [rwS (.slice (some ⟨fg, 0, none⟩) dd.f.length fc) dd.f.length F] ((qs, Obj.cells #[.int .i64 sa, .int .i64 sb] 25 (0, 0)) :: [(q8, Obj.cells #[.slice (some ⟨fg, 0, none⟩) dd.f.length fc, .slice (some ⟨mg, 0, none⟩) dd.m.length mc] 43 (0, 0)), (q7, Obj.cells #[.slice (some ⟨rg, 0, none⟩) dd.r.length rc] 41 (0, 0))]) W → (fun W => W.cell? ⟨q8, 0, none⟩ = some (.slice (some ⟨fg, 0, none⟩) dd.f.length fc) ∧ W.cell? ⟨qs, 0, none⟩ = some (.int .i64 sa) ∧ W.cell? ⟨qs, 1, none⟩ = some (.int .i64 sb)) W) := Lib.hid fun F W h => ⟨(box_cell h (cs := #[.slice (some ⟨fg, 0, none⟩) dd.f.length fc, .slice (some ⟨mg, 0, none⟩) dd.m.length mc]) (t := 43) (p := q8) (j := 0) (by simp) rfl).1, (box_cell h (cs := #[.int .i64 sa, .int .i64 sb]) (t := 25) (p := qs) (j := 0) (by simp) rfl).1, (box_cell h (cs := #[.int .i64 sa, .int .i64 sb]) (t := 25) (p := qs) (j := 1) (by simp) rfl).1⟩
         have HKd := Lib.hid HK3.out.drew
         have hC := HCF.out _ _ HKd.out
         clear HK3
         generalize hW0 : w7.drew = W3 at HKd hC
         refine Lim.regC' (fun W => W.cell? ⟨q8, 0, none⟩ = some (.slice (some ⟨fg, 0, none⟩) dd.f.length fc) ∧ W.cell? ⟨qs, 0, none⟩ = some (.int .i64 sa) ∧ W.cell? ⟨qs, 1, none⟩ = some (.int .i64 sb)) [] #[false, false, false, false, false, false, false, false, false, false, false, false, false, false] (by kernel_rfl) rfl ?_
         rw [hW0]; clear hW0
         refine Lim.stepR 0 (fun _ => trivial) rfl (by kernel_rfl) (fun _ _ _ _ h => h) hC rfl ?_; apply Exists.intro; refine ⟨?_, ?_⟩
         ·rintro w ⟨r0, r1, r2⟩; go_simp; try with_reducible rfl
         simp only [Act.put, List.setIfInBounds_toArray, List.set_cons_succ, List.set_cons_zero]
         refine Lim.stepR 1 (fun _ => trivial) rfl (by kernel_rfl) (fun _ _ _ _ h => h) hC rfl ?_; apply Exists.intro; refine ⟨?_, ?_⟩
         ·rintro w ⟨r0, r1, r2⟩; go_simp; try with_reducible rfl
         simp only [Act.put, List.setIfInBounds_toArray, List.set_cons_succ, List.set_cons_zero]
         refine Lim.stepR 2 (fun _ => trivial) rfl (by kernel_rfl) (fun _ _ _ _ h => h) hC rfl ?_; apply Exists.intro; refine ⟨?_, ?_⟩
         ·rintro w ⟨r0, r1, r2⟩; go_simp; try with_reducible rfl
         simp only [Act.put, List.setIfInBounds_toArray, List.set_cons_succ, List.set_cons_zero]
         refine Lim.stepR 3 (fun _ => trivial) rfl (by kernel_rfl) (fun _ _ _ _ h => h) hC rfl ?_; apply Exists.intro; refine ⟨?_, ?_⟩
         ·rintro w ⟨r0, r1, r2⟩; go_simp; try with_reducible rfl
         simp only [Act.put, List.setIfInBounds_toArray, List.set_cons_succ, List.set_cons_zero]
         refine Lim.stepR 4 (fun _ => trivial) rfl (by kernel_rfl) (fun _ _ _ _ h => h) hC rfl ?_; apply Exists.intro; refine ⟨?_, ?_⟩
         ·rintro w ⟨r0, r1, r2⟩; go_simp; try with_reducible rfl
         simp only [Act.put, List.setIfInBounds_toArray, List.set_cons_succ, List.set_cons_zero]
         refine Lim.stepR 5 (fun _ => trivial) rfl (by kernel_rfl) (fun _ _ _ _ h => h) hC rfl ?_; apply Exists.intro; refine ⟨?_, ?_⟩
         ·rintro w ⟨r0, r1, r2⟩; go_simp; try with_reducible rfl
         simp only [Act.put, List.setIfInBounds_toArray, List.set_cons_succ, List.set_cons_zero]
         refine Lim.stepR 6 (fun _ => trivial) rfl (by kernel_rfl) (fun _ _ _ _ h => h) hC rfl ?_; apply Exists.intro; refine ⟨?_, ?_⟩
         ·rintro w ⟨r0, r1, r2⟩; go_simp; try with_reducible rfl
         simp only [Act.put, List.setIfInBounds_toArray, List.set_cons_succ, List.set_cons_zero]
         refine Lim.stepR 7 (fun _ => trivial) rfl (by kernel_rfl) (fun _ _ _ _ h => h) hC rfl ?_; apply Exists.intro; refine ⟨?_, ?_⟩
         ·rintro w ⟨r0, r1, r2⟩; go_simp; try with_reducible rfl
         simp only [Act.put, List.setIfInBounds_toArray, List.set_cons_succ, List.set_cons_zero]
         refine Lim.stepR 8 (fun _ => trivial) rfl (by kernel_rfl) (fun _ _ _ _ h => h) hC rfl ?_; apply Exists.intro; refine ⟨?_, ?_⟩
         ·rintro w ⟨r0, r1, r2⟩; go_simp; try with_reducible rfl
         simp only [Act.put, List.setIfInBounds_toArray, List.set_cons_succ, List.set_cons_zero]
         refine Lim.stepR 9 (fun _ => trivial) rfl (by kernel_rfl) (fun _ _ _ _ h => h) hC rfl ?_; apply Exists.intro; refine ⟨?_, ?_⟩
         ·rintro w ⟨r0, r1, r2⟩; go_simp; try with_reducible rfl
         simp only [Act.put, List.setIfInBounds_toArray, List.set_cons_succ, List.set_cons_zero]
         refine Lim.stepR 10 (fun _ => trivial) rfl (by kernel_rfl) (fun _ _ _ _ h => h) hC rfl ?_; apply Exists.intro; refine ⟨?_, ?_⟩
         ·rintro w ⟨r0, r1, r2⟩; go_simp; try with_reducible rfl
         simp only [Act.put, List.setIfInBounds_toArray, List.set_cons_succ, List.set_cons_zero]
         refine Lim.stepE 11 (fun _ => trivial) rfl (by kernel_rfl) rfl (fun K hK => ?_)   -- E call
         go_simp
         refine ⟨rfl, (callsIn_wide.2 (span_any (sa - mv) (sb - mv) _)).mono ?_⟩
         rintro e W4 ⟨rfl, hb⟩
         have HKe := Lib.hid (HKd.out.grow hb)
         have hC2 := HCF.out _ _ HKe.out
         refine hK _ _ hC2 ?_
         clear hK hb HKd hC
         simp only [Act.put, List.setIfInBounds_toArray, List.set_cons_succ, List.set_cons_zero]
         refine Lim.stepR 12 (fun _ => trivial) rfl (by kernel_rfl) (fun _ _ _ _ h => h) hC2 rfl ?_; apply Exists.intro; refine ⟨?_, ?_⟩
         ·rintro w ⟨r0, r1, r2⟩; go_simp; try with_reducible rfl
         simp only [Act.put, List.setIfInBounds_toArray, List.set_cons_succ, List.set_cons_zero]
         refine Lim.stepE 13 (fun _ => trivial) rfl (by kernel_rfl) rfl (fun K hK => ?_)   -- E store
         obtain ⟨z0, z1⟩ := HKe.out.cellS (g := fg) (n := dd.f.length) (cap := fc) (l := F) (.inr (by simp)) (j := k) (by rw [HMA.out.len]; exact hkl)
         have y0 : W4.frozen? ⟨fg, k * 2, none⟩ = false := row_frz (HKe.out.q (rwS (.slice (some ⟨fg, 0, none⟩) dd.f.length fc) dd.f.length F) (by simp)) rfl _
         have y1 : W4.frozen? ⟨fg, k * 2 + 1, none⟩ = false := row_frz (HKe.out.q (rwS (.slice (some ⟨fg, 0, none⟩) dd.f.length fc) dd.f.length F) (by simp)) rfl _
         go_simp
         have HK4 : Hid (Mem w S w.heap.size c' [rwI (.slice (some ⟨lg, 0, none⟩) dd.m.length lc) dd.m.length (L.map Int.ofNat), rwI (.slice (some ⟨mg, 0, none⟩) dd.m.length mc) dd.m.length dd.m, rwS (.slice (some ⟨rg, 0, none⟩) dd.r.length rc) dd.r.length dd.r] [rwS (.slice (some ⟨fg, 0, none⟩) dd.f.length fc) dd.f.length (F.set k (sa - mv, sb - mv))] ((qs, Obj.cells #[.int .i64 sa, .int .i64 sb] 25 (0, 0)) :: [(q8, Obj.cells #[.slice (some ⟨fg, 0, none⟩) dd.f.length fc, .slice (some ⟨mg, 0, none⟩) dd.m.length mc] 43 (0, 0)), (q7, Obj.cells #[.slice (some ⟨rg, 0, none⟩) dd.r.length rc] 41 (0, 0))]) ((W4.setCell ⟨fg, k * 2, none⟩ (.int .i64 (sa - mv))).setCell ⟨fg, k * 2 + 1, none⟩ (.int .i64 (sb - mv)))) := Lib.hid (Mem.setS (Q1 := []) HKe.out k (sa - mv) (sb - mv))
         have hC3 := HCF.out _ _ HK4.out
         refine hK _ _ hC3 ?_
         clear hK z0 z1 y0 y1 HKe hC2
         generalize (W4.setCell ⟨fg, k * 2, none⟩ (.int .i64 (sa - mv))).setCell ⟨fg, k * 2 + 1, none⟩ (.int .i64 (sb - mv)) = w9 at HK4 hC3 ⊢
         simp only [Act.put, List.setIfInBounds_toArray, List.set_cons_succ, List.set_cons_zero]
         refine Lim.stepD (by kernel_rfl) ?_
         clear hC3 HCF
         clear em ep em2 ep2
         go_wp2
         go_meet
         case rel => exact ⟨_, Lib.hid (by have := HMA.out.mid HK0.out hkl HP.out.spans.2.1 (by rw [← HSA.out.1]; have := HLO.out; omega); rw [← HSA.out.1, ← HSA.out.2] at this; exact this), Lib.hid (HK4.out.less (fun _ h => h) (List.Sublist.refl _) (.cons _ (List.Sublist.refl _)))⟩
       ·have HK00 : Hid (k = 0) := Lib.hid (by omega)
        have hki0 : ¬ ((0 : Int) < (k : Int)) := by omega
        have hke : ((k : Int) == 0) = true := by rw [beq_iff_eq]; omega
        clear hk0
        by_cases hlo : sa + mv < 1
        ·go_wp2_with fail
         refine (awake_any _).mono ?_
         rintro e wz ⟨rfl, hb⟩
         have HB := Lib.hid (HK3.out.b.trans (hb.mono HK3.out.b.size))
         clear hb
         go_wp2
         go_ret
         exact ⟨rfl, HB.out⟩
        ·have HLO := Lib.hid hlo
         go_upto_region 16 with (fail)
         clear e0
         have HCF : Hid (∀ F W, Mem w S w.heap.size c' [rwI (.slice (some ⟨lg, 0, none⟩) dd.m.length lc) dd.m.length (L.map Int.ofNat), rwI (.slice (some ⟨mg, 0, none⟩) dd.m.length mc) dd.m.length dd.m, rwS (.slice (some ⟨rg, 0, none⟩) dd.r.length rc) dd.r.length dd.r] [rwS (.slice (some ⟨fg, 0, none⟩) dd.f.length fc) dd.f.length F] ((qs, Obj.cells #[.int .i64 sa, .int .i64 sb] 25 (0, 0)) :: [(q8, Obj.cells #[.slice (some ⟨fg, 0, none⟩) dd.f.length fc, .slice (some ⟨mg, 0, none⟩) dd.m.length mc] 43 (0, 0)), (q7, Obj.cells #[.slice (some ⟨rg, 0, none⟩) dd.r.length rc] 41 (0, 0))]) W → (fun W => W.cell? ⟨q8, 0, none⟩ = some (.slice (some ⟨fg, 0, none⟩) dd.f.length fc) ∧ W.cell? ⟨qs, 0, none⟩ = some (.int .i64 sa) ∧ W.cell? ⟨qs, 1, none⟩ = some (.int .i64 sb)) W) := Lib.hid fun F W h => ⟨(box_cell h (cs := #[.slice (some ⟨fg, 0, none⟩) dd.f.length fc, .slice (some ⟨mg, 0, none⟩) dd.m.length mc]) (t := 43) (p := q8) (j := 0) (by simp) rfl).1, (box_cell h (cs := #[.int .i64 sa, .int .i64 sb]) (t := 25) (p := qs) (j := 0) (by simp) rfl).1, (box_cell h (cs := #[.int .i64 sa, .int .i64 sb]) (t := 25) (p := qs) (j := 1) (by simp) rfl).1⟩
         have HKd := Lib.hid HK3.out.drew
         have hC := HCF.out _ _ HKd.out
         clear HK3
         generalize hW0 : w7.drew = W3 at HKd hC
         refine Lim.regC' (fun W => W.cell? ⟨q8, 0, none⟩ = some (.slice (some ⟨fg, 0, none⟩) dd.f.length fc) ∧ W.cell? ⟨qs, 0, none⟩ = some (.int .i64 sa) ∧ W.cell? ⟨qs, 1, none⟩ = some (.int .i64 sb)) [] #[false, false, false, false, false, false, false, false, false, false, false, false, false, false] (by kernel_rfl) rfl ?_
         rw [hW0]; clear hW0
         refine Lim.stepR 0 (fun _ => trivial) rfl (by kernel_rfl) (fun _ _ _ _ h => h) hC rfl ?_; apply Exists.intro; refine ⟨?_, ?_⟩
         ·rintro w ⟨r0, r1, r2⟩; go_simp; try with_reducible rfl
         simp only [Act.put, List.setIfInBounds_toArray, List.set_cons_succ, List.set_cons_zero]
         refine Lim.stepR 1 (fun _ => trivial) rfl (by kernel_rfl) (fun _ _ _ _ h => h) hC rfl ?_; apply Exists.intro; refine ⟨?_, ?_⟩
         ·rintro w ⟨r0, r1, r2⟩; go_simp; try with_reducible rfl
         simp only [Act.put, List.setIfInBounds_toArray, List.set_cons_succ, List.set_cons_zero]
         refine Lim.stepR 2 (fun _ => trivial) rfl (by kernel_rfl) (fun _ _ _ _ h => h) hC rfl ?_; apply Exists.intro; refine ⟨?_, ?_⟩
         ·rintro w ⟨r0, r1, r2⟩; go_simp; try with_reducible rfl
         simp only [Act.put, List.setIfInBounds_toArray, List.set_cons_succ, List.set_cons_zero]
         refine Lim.stepR 3 (fun _ => trivial) rfl (by kernel_rfl) (fun _ _ _ _ h => h) hC rfl ?_; apply Exists.intro; refine ⟨?_, ?_⟩
         ·rintro w ⟨r0, r1, r2⟩; go_simp; try with_reducible rfl
         simp only [Act.put, List.setIfInBounds_toArray, List.set_cons_succ, List.set_cons_zero]
         refine Lim.stepR 4 (fun _ => trivial) rfl (by kernel_rfl) (fun _ _ _ _ h => h) hC rfl ?_; apply Exists.intro; refine ⟨?_, ?_⟩
         ·rintro w ⟨r0, r1, r2⟩; go_simp; try with_reducible rfl
         simp only [Act.put, List.setIfInBounds_toArray, List.set_cons_succ, List.set_cons_zero]
         refine Lim.stepR 5 (fun _ => trivial) rfl (by kernel_rfl) (fun _ _ _ _ h => h) hC rfl ?_; apply Exists.intro; refine ⟨?_, ?_⟩
         ·rintro w ⟨r0, r1, r2⟩; go_simp; try with_reducible rfl
         simp only [Act.put, List.setIfInBounds_toArray, List.set_cons_succ, List.set_cons_zero]
         refine Lim.stepR 6 (fun _ => trivial) rfl (by kernel_rfl) (fun _ _ _ _ h => h) hC rfl ?_; apply Exists.intro; refine ⟨?_, ?_⟩
         ·rintro w ⟨r0, r1, r2⟩; go_simp; try with_reducible rfl
         simp only [Act.put, List.setIfInBounds_toArray, List.set_cons_succ, List.set_cons_zero]
         refine Lim.stepR 7 (fun _ => trivial) rfl (by kernel_rfl) (fun _ _ _ _ h => h) hC rfl ?_; apply Exists.intro; refine ⟨?_, ?_⟩
         ·rintro w ⟨r0, r1, r2⟩; go_simp; try with_reducible rfl
         simp only [Act.put, List.setIfInBounds_toArray, List.set_cons_succ, List.set_cons_zero]
         refine Lim.stepR 8 (fun _ => trivial) rfl (by kernel_rfl) (fun _ _ _ _ h => h) hC rfl ?_; apply Exists.intro; refine ⟨?_, ?_⟩
         ·rintro w ⟨r0, r1, r2⟩; go_simp; try with_reducible rfl
         simp only [Act.put, List.setIfInBounds_toArray, List.set_cons_succ, List.set_cons_zero]
         refine Lim.stepR 9 (fun _ => trivial) rfl (by kernel_rfl) (fun _ _ _ _ h => h) hC rfl ?_; apply Exists.intro; refine ⟨?_, ?_⟩
         ·rintro w ⟨r0, r1, r2⟩; go_simp; try with_reducible rfl
         simp only [Act.put, List.setIfInBounds_toArray, List.set_cons_succ, List.set_cons_zero]
         refine Lim.stepR 10 (fun _ => trivial) rfl (by kernel_rfl) (fun _ _ _ _ h => h) hC rfl ?_; apply Exists.intro; refine ⟨?_, ?_⟩
         ·rintro w ⟨r0, r1, r2⟩; go_simp; try with_reducible rfl
         simp only [Act.put, List.setIfInBounds_toArray, List.set_cons_succ, List.set_cons_zero]
         refine Lim.stepE 11 (fun _ => trivial) rfl (by kernel_rfl) rfl (fun K hK => ?_)   -- E call
         go_simp
         refine ⟨rfl, (callsIn_wide.2 (span_any (sa + mv) (sb + mv) _)).mono ?_⟩
         rintro e W4 ⟨rfl, hb⟩
         have HKe := Lib.hid (HKd.out.grow hb)
         have hC2 := HCF.out _ _ HKe.out
         refine hK _ _ hC2 ?_
         clear hK hb HKd hC
         simp only [Act.put, List.setIfInBounds_toArray, List.set_cons_succ, List.set_cons_zero]
         refine Lim.stepR 12 (fun _ => trivial) rfl (by kernel_rfl) (fun _ _ _ _ h => h) hC2 rfl ?_; apply Exists.intro; refine ⟨?_, ?_⟩
         ·rintro w ⟨r0, r1, r2⟩; go_simp; try with_reducible rfl
         simp only [Act.put, List.setIfInBounds_toArray, List.set_cons_succ, List.set_cons_zero]
         refine Lim.stepE 13 (fun _ => trivial) rfl (by kernel_rfl) rfl (fun K hK => ?_)   -- E store
         obtain ⟨z0, z1⟩ := HKe.out.cellS (g := fg) (n := dd.f.length) (cap := fc) (l := F) (.inr (by simp)) (j := k) (by rw [HMA.out.len]; exact hkl)
         have y0 : W4.frozen? ⟨fg, k * 2, none⟩ = false := row_frz (HKe.out.q (rwS (.slice (some ⟨fg, 0, none⟩) dd.f.length fc) dd.f.length F) (by simp)) rfl _
         have y1 : W4.frozen? ⟨fg, k * 2 + 1, none⟩ = false := row_frz (HKe.out.q (rwS (.slice (some ⟨fg, 0, none⟩) dd.f.length fc) dd.f.length F) (by simp)) rfl _
         go_simp
         have HK4 : Hid (Mem w S w.heap.size c' [rwI (.slice (some ⟨lg, 0, none⟩) dd.m.length lc) dd.m.length (L.map Int.ofNat), rwI (.slice (some ⟨mg, 0, none⟩) dd.m.length mc) dd.m.length dd.m, rwS (.slice (some ⟨rg, 0, none⟩) dd.r.length rc) dd.r.length dd.r] [rwS (.slice (some ⟨fg, 0, none⟩) dd.f.length fc) dd.f.length (F.set k (sa + mv, sb + mv))] ((qs, Obj.cells #[.int .i64 sa, .int .i64 sb] 25 (0, 0)) :: [(q8, Obj.cells #[.slice (some ⟨fg, 0, none⟩) dd.f.length fc, .slice (some ⟨mg, 0, none⟩) dd.m.length mc] 43 (0, 0)), (q7, Obj.cells #[.slice (some ⟨rg, 0, none⟩) dd.r.length rc] 41 (0, 0))]) ((W4.setCell ⟨fg, k * 2, none⟩ (.int .i64 (sa + mv))).setCell ⟨fg, k * 2 + 1, none⟩ (.int .i64 (sb + mv)))) := Lib.hid (Mem.setS (Q1 := []) HKe.out k (sa + mv) (sb + mv))
         have hC3 := HCF.out _ _ HK4.out
         refine hK _ _ hC3 ?_
         clear hK z0 z1 y0 y1 HKe hC2
         generalize (W4.setCell ⟨fg, k * 2, none⟩ (.int .i64 (sa + mv))).setCell ⟨fg, k * 2 + 1, none⟩ (.int .i64 (sb + mv)) = w9 at HK4 hC3 ⊢
         simp only [Act.put, List.setIfInBounds_toArray, List.set_cons_succ, List.set_cons_zero]
         refine Lim.stepD (by kernel_rfl) ?_
         clear hC3 HCF
         clear em ep em2 ep2
         go_wp2
         go_meet
         case rel => exact ⟨_, Lib.hid (by have := HMA.out.first HK00.out hkl HP.out.spans.2.1 (by rw [← HSA.out.1]; have := HLO.out; omega); rw [← HSA.out.1, ← HSA.out.2] at this; exact this), Lib.hid (HK4.out.less (fun _ h => h) (List.Sublist.refl _) (.cons _ (List.Sublist.refl _)))⟩
      ·have hkl2 : ¬ ((k : Int) < (dd.f.length : Int)) := by omega
       have HKL : Hid (k = dd.f.length ∧ 0 < k) := Lib.hid (by have h1 := HM2.out; have h2 := HLN.out; have h3 := HKM.out; omega)
       clear hkl
       go_wp2
       go_meet
       case rel => exact ⟨F, Lib.hid (HMA.out.last HKL.out.2 HKL.out.1 HP.out.spans.2.1), HK2⟩
    case rest =>
     as_aux_lemma =>
      obtain ⟨G, HMF, HK3⟩ := hcut
      clear HK2 b1 HMA
      have HEG : Hid ((withF dd G).err = 0) := Lib.hid (moved_err (by omega) HP.out HMF.out)
      have b0 := (box_cell HK3.out (cs := #[.slice (some ⟨rg, 0, none⟩) dd.r.length rc]) (t := 41) (p := q7) (j := 0) (by simp) rfl).1
      have b1 := (box_cell HK3.out (cs := #[.slice (some ⟨fg, 0, none⟩) dd.f.length fc, .slice (some ⟨mg, 0, none⟩) dd.m.length mc]) (t := 43) (p := q8) (j := 0) (by simp) rfl).1
      have b2 := (box_cell HK3.out (cs := #[.slice (some ⟨fg, 0, none⟩) dd.f.length fc, .slice (some ⟨mg, 0, none⟩) dd.m.length mc]) (t := 43) (p := q8) (j := 1) (by simp) rfl).1
      go_wp2_with fail
      refine (Readings_any (B := wc.heap.size) (d := withF dd G) (Nat.le_refl _) (HK3.out.rsS (v := .slice (some ⟨rg, 0, none⟩) dd.r.length rc) (n := dd.r.length) (l := dd.r) (.inl (by simp)) rfl) (fun a c h => by cases h; exact own_cap (HK3.out.r (rwS (.slice (some ⟨rg, 0, none⟩) dd.r.length rc) dd.r.length dd.r) (by simp))) (show RS _ _ _ G.length (spans G) from HK3.out.rsS (v := .slice (some ⟨fg, 0, none⟩) dd.f.length fc) (n := dd.f.length) (l := G) (.inr (by simp)) HMF.out.len) (HK3.out.rsI (v := .slice (some ⟨mg, 0, none⟩) dd.m.length mc) (n := dd.m.length) (l := dd.m) (.inl (by simp)) rfl)).mono ?_
      rintro e w8 ⟨rfl, hb⟩
      have HK4 := Lib.hid (HK3.out.grow hb)
      rw [read_ok HEG.out]
      obtain ⟨ti, hti⟩ : ∃ t : Int, t = ((total (withF dd G) : Nat) : Int) := ⟨_, rfl⟩
      rw [← hti]
      have HTI := Lib.hid hti
      clear hb HK3 b0 b1 b2 hti
      have b0 := (box_cell HK4.out (cs := #[.slice (some ⟨rg, 0, none⟩) dd.r.length rc]) (t := 41) (p := q7) (j := 0) (by simp) rfl).1
      have b1 := (box_cell HK4.out (cs := #[.slice (some ⟨fg, 0, none⟩) dd.f.length fc, .slice (some ⟨mg, 0, none⟩) dd.m.length mc]) (t := 43) (p := q8) (j := 0) (by simp) rfl).1
      have b2 := (box_cell HK4.out (cs := #[.slice (some ⟨fg, 0, none⟩) dd.f.length fc, .slice (some ⟨mg, 0, none⟩) dd.m.length mc]) (t := 43) (p := q8) (j := 1) (by simp) rfl).1
      go_wp2_with fail
      refine (Wrong_any (B := w8.heap.size) (d := withF dd G) (Nat.le_refl _) (HK4.out.rsS (v := .slice (some ⟨rg, 0, none⟩) dd.r.length rc) (n := dd.r.length) (l := dd.r) (.inl (by simp)) rfl) (fun a c h => by cases h; exact own_cap (HK4.out.r (rwS (.slice (some ⟨rg, 0, none⟩) dd.r.length rc) dd.r.length dd.r) (by simp))) (show RS _ _ _ G.length (spans G) from HK4.out.rsS (v := .slice (some ⟨fg, 0, none⟩) dd.f.length fc) (n := dd.f.length) (l := G) (.inr (by simp)) HMF.out.len) (HK4.out.rsI (v := .slice (some ⟨mg, 0, none⟩) dd.m.length mc) (n := dd.m.length) (l := dd.m) (.inl (by simp)) rfl)).mono ?_
      rintro e w9 ⟨v, er, rfl, hb, ha⟩
      clear b0 b1 b2
      rcases ha with ⟨h1, -⟩ | ⟨-, hp, rfl, rfl⟩ | ⟨-, h0, rfl, ho⟩
      ·exact absurd HEG.out h1
      ·have HK5 := Lib.hid (HK4.out.grow hb)
       have dt : decide (0 < ti) = true := by rw [decide_eq_true_eq, HTI.out]; omega
       clear hb hp HK4
       go_wp2_with fail
       refine (awake_any _).mono ?_
       rintro e wz ⟨rfl, hb⟩
       have HB := Lib.hid (HK5.out.b.trans (hb.mono HK5.out.b.size))
       clear hb
       go_wp2
       go_ret
       exact ⟨rfl, HB.out⟩
      ·have dt : decide (0 < ti) = false := by rw [decide_eq_false_iff_not, HTI.out]; omega
       obtain ⟨WL, hWL⟩ : ∃ l, l = wrongTo (withF dd G) dd.m.length := ⟨_, rfl⟩
       have ho : w9.ownsRow w8.heap.size 3 1 v WL.length (ints WL) := by rw [hWL]; exact ho
       have hkw : (k : Int) ∈ WL := by rw [hWL]; exact mem_wrong.2 ⟨k, HKM.out, rfl, moved_reads HP.out HMF.out HKM.out HM2.out⟩
       have HKW : Hid (decide ((k : Int) ∈ WL) = true) := Lib.hid (decide_eq_true hkw)
       have HWL := Lib.hid hWL
       have HWN : Hid (WL.length ≤ 10) := Lib.hid (by rw [hWL]; have h1 := wrongTo_len (withF dd G) dd.m.length; have h2 := HLN.out; omega)
       have HK5 := Lib.hid (HK4.out.freeze.addR hb (r := rwI v WL.length WL) ho)
       obtain ⟨wg, wlc, rfl⟩ : ∃ g c, v = .slice (some ⟨g, 0, none⟩) WL.length c := form_pos (r := rwI v WL.length WL) ho (List.length_pos_of_mem hkw)
       clear hb h0 ho hWL hkw HK4
       go_wp2_with fail
       refine (contains_any (B := w9.heap.size) (xs := WL) (k : Int) (by have := HWN.out; omega) (HK5.out.rsI (v := .slice (some ⟨wg, 0, none⟩) WL.length wlc) (n := WL.length) (l := WL) (.inl (by simp)) rfl)).mono ?_
       rintro e w' ⟨rfl, rfl⟩
       rw [HKW.out]
       go_wp2_with fail
       clear dt
       go_loopw [165] (fun i W => ∃ t : Nat, t ≤ WL.length ∧ i = .int .i64 t ∧ Hid (Mem w S w.heap.size c' (rwI (.slice (some ⟨wg, 0, none⟩) WL.length wlc) WL.length WL :: rwS (.slice (some ⟨fg, 0, none⟩) dd.f.length fc) dd.f.length G :: [rwI (.slice (some ⟨lg, 0, none⟩) dd.m.length lc) dd.m.length (L.map Int.ofNat), rwI (.slice (some ⟨mg, 0, none⟩) dd.m.length mc) dd.m.length dd.m, rwS (.slice (some ⟨rg, 0, none⟩) dd.r.length rc) dd.r.length dd.r]) ([]) ([(q8, Obj.cells #[.slice (some ⟨fg, 0, none⟩) dd.f.length fc, .slice (some ⟨mg, 0, none⟩) dd.m.length mc] 43 (0, 0)), (q7, Obj.cells #[.slice (some ⟨rg, 0, none⟩) dd.r.length rc] 41 (0, 0))]) W)) (fun i _ => WL.length - (intOf i).toNat)
       case atStart => exact ⟨0, Nat.zero_le _, rfl, HK5⟩
       case round =>
        as_aux_lemma =>
         clear HK5
         obtain ⟨t, ht, rfl, HK⟩ := hrel
         by_cases hlt : t < WL.length
         ·have hti : (t : Int) < (WL.length : Int) := by omega
          have ht10 : t < 10 := by have := HWN.out; omega
          obtain ⟨i, hi, hiw, hip⟩ := mem_wrong.1 (show WL.getD t 0 ∈ wrongTo (withF dd G) dd.m.length by rw [← HWL.out]; exact getD_mem hlt)
          have q1 := HK.out.cellI (g := wg) (n := WL.length) (cap := wlc) (l := WL) (.inl (by simp)) (j := t) hlt
          rw [hiw] at q1
          have hii : (i : Int) < (dd.m.length : Int) := by omega
          have hi10 : i < 10 := by have := HLN.out; omega
          have HIP : Hid (i < dd.m.length ∧ 0 < total (wo (withF dd G) i)) := Lib.hid ⟨hi, hip⟩
          have dn : decide ((i : Int) < 0) = false := by rw [decide_eq_false_iff_not]; omega
          have dm : decide (dd.m.length ≤ i) = false := by rw [decide_eq_false_iff_not]; omega
          have dm2 : decide ((dd.m.length : Int) ≤ (i : Int)) = false := by rw [decide_eq_false_iff_not]; omega
          have b2 := (box_cell HK.out (cs := #[.slice (some ⟨fg, 0, none⟩) dd.f.length fc, .slice (some ⟨mg, 0, none⟩) dd.m.length mc]) (t := 43) (p := q8) (j := 1) (by simp) rfl).1
          obtain ⟨E, hE⟩ : ∃ E, E = dd.m.eraseIdx i := ⟨_, rfl⟩
          have HE : Hid (E = dd.m.eraseIdx i ∧ E.length + 1 = dd.m.length) := Lib.hid ⟨hE, by rw [hE, List.length_eraseIdx, if_pos hi]; omega⟩
          clear hi hiw hip hE
          have ei : IntKind.i64.wrap ((i : Int) + 1) = (i : Int) + 1 := IntWalk.i64_in _ (by omega)
          go_upto_region 30 with (fail)
          clear q1 b2 dn dm dm2
          have HKd := Lib.hid HK.out.drew
          have hC : (fun W => W.cell? ⟨q8, 0, none⟩ = some (.slice (some ⟨fg, 0, none⟩) dd.f.length fc) ∧ W.cell? ⟨q8, 1, none⟩ = some (.slice (some ⟨mg, 0, none⟩) dd.m.length mc)) wr.drew := ⟨(box_cell HKd.out (cs := #[.slice (some ⟨fg, 0, none⟩) dd.f.length fc, .slice (some ⟨mg, 0, none⟩) dd.m.length mc]) (t := 43) (p := q8) (j := 0) (by simp) rfl).1, (box_cell HKd.out (cs := #[.slice (some ⟨fg, 0, none⟩) dd.f.length fc, .slice (some ⟨mg, 0, none⟩) dd.m.length mc]) (t := 43) (p := q8) (j := 1) (by simp) rfl).1⟩
          clear HK
          refine Lim.regC' (fun W => W.cell? ⟨q8, 0, none⟩ = some (.slice (some ⟨fg, 0, none⟩) dd.f.length fc) ∧ W.cell? ⟨q8, 1, none⟩ = some (.slice (some ⟨mg, 0, none⟩) dd.m.length mc)) [] #[false, false, false, false, false, false, false, false, false, false, false, false, false] (by kernel_rfl) rfl ?_
          refine Lim.stepR 0 (fun _ => trivial) rfl (by kernel_rfl) (fun _ _ _ _ h => h) hC rfl ?_; apply Exists.intro; refine ⟨?_, ?_⟩
          ·rintro w ⟨r0, r1⟩; go_simp; try with_reducible rfl
          simp only [Act.put, List.setIfInBounds_toArray, List.set_cons_succ, List.set_cons_zero]
          refine Lim.stepR 1 (fun _ => trivial) rfl (by kernel_rfl) (fun _ _ _ _ h => h) hC rfl ?_; apply Exists.intro; refine ⟨?_, ?_⟩
          ·rintro w ⟨r0, r1⟩; go_simp; try with_reducible rfl
          simp only [Act.put, List.setIfInBounds_toArray, List.set_cons_succ, List.set_cons_zero]
          refine Lim.stepR 3 (fun _ => trivial) rfl (by kernel_rfl) (fun _ _ _ _ h => h) hC rfl ?_; apply Exists.intro; refine ⟨?_, ?_⟩
          ·rintro w ⟨r0, r1⟩; go_simp; try with_reducible rfl
          simp only [Act.put, List.setIfInBounds_toArray, List.set_cons_succ, List.set_cons_zero]
          refine Lim.stepR 4 (fun _ => trivial) rfl (by kernel_rfl) (fun _ _ _ _ h => h) hC rfl ?_; apply Exists.intro; refine ⟨?_, ?_⟩
          ·rintro w ⟨r0, r1⟩; go_simp; try with_reducible rfl
          simp only [Act.put, List.setIfInBounds_toArray, List.set_cons_succ, List.set_cons_zero]
          refine Lim.stepR 6 (fun _ => trivial) rfl (by kernel_rfl) (fun _ _ _ _ h => h) hC rfl ?_; apply Exists.intro; refine ⟨?_, ?_⟩
          ·rintro w ⟨r0, r1⟩; go_simp; try with_reducible rfl
          simp only [Act.put, List.setIfInBounds_toArray, List.set_cons_succ, List.set_cons_zero]
          refine Lim.stepR 7 (fun _ => trivial) rfl (by kernel_rfl) (fun _ _ _ _ h => h) hC rfl ?_; apply Exists.intro; refine ⟨?_, ?_⟩
          ·rintro w ⟨r0, r1⟩; go_simp; try with_reducible rfl
          simp only [Act.put, List.setIfInBounds_toArray, List.set_cons_succ, List.set_cons_zero]
          refine Lim.stepR 8 (fun _ => trivial) rfl (by kernel_rfl) (fun _ _ _ _ h => h) hC rfl ?_; apply Exists.intro; refine ⟨?_, ?_⟩
          ·rintro w ⟨r0, r1⟩; go_simp; try with_reducible rfl
          simp only [Act.put, List.setIfInBounds_toArray, List.set_cons_succ, List.set_cons_zero]
          refine Lim.parC [2, 5, 9, 10, 11, 12] (fun done a W => ∃ x2 x5 x9 x10 x11 pp, a = { tmps := #[.slice na ns.length nc, .int .i64 a0, .int .i64 a1, undef, undef, undef, u6, .pointer (some ⟨q7, 0, none⟩), .pointer (some ⟨q8, 0, none⟩), .slice (some ⟨lg, 0, none⟩) dd.m.length lc, .int .i64 k, .int .i64 mv, u12, u13, .int .i64 ti, .int .i64 0, .slice (some ⟨wg, 0, none⟩) WL.length wlc, .int .i64 0, undef, .int .i64 i, x11, u21, u22, .tuple #[.agg #[.slice (some ⟨rg, 0, none⟩) dd.r.length rc], .agg #[.slice (some ⟨fg, 0, none⟩) dd.f.length fc, .slice (some ⟨mg, 0, none⟩) dd.m.length mc], .slice (some ⟨lg, 0, none⟩) dd.m.length lc], .slice na ns.length nc, .pointer (some ⟨w.heap.size, 0, none⟩), .tuple #[.agg #[.slice (some ⟨rg, 0, none⟩) dd.r.length rc], .agg #[.slice (some ⟨fg, 0, none⟩) dd.f.length fc, .slice (some ⟨mg, 0, none⟩) dd.m.length mc], .slice (some ⟨lg, 0, none⟩) dd.m.length lc], .agg #[.slice (some ⟨rg, 0, none⟩) dd.r.length rc], .agg #[.slice (some ⟨fg, 0, none⟩) dd.f.length fc, .slice (some ⟨mg, 0, none⟩) dd.m.length mc], .slice (some ⟨lg, 0, none⟩) dd.m.length lc, .int .i64 a0, .slice (some ⟨lg, 0, none⟩) dd.m.length lc, .int .i64 dd.m.length, .int .i64 k, .slice (some ⟨lg, 0, none⟩) dd.m.length lc, .int .i64 dd.m.length, .bool false, undef, .int .i64 a1, .int .i64 r2, .int .i64 m0, .int .i64 k, u42, u43, u44, u45, u46, u47, u48, u49, u50, u51, u52, u53, u54, u55, u56, u57, u58, u59, u60, u61, u62, u63, u64, u65, u66, u67, .int .i64 k, .pointer (some ⟨q8, 0, none⟩), .slice (some ⟨fg, 0, none⟩) dd.f.length fc, .int .i64 dd.f.length, u72, u73, u74, u75, u76, u77, u78, u79, u80, u81, u82, u83, u84, u85, u86, u87, u88, u89, u90, u91, u92, u93, u94, u95, u96, u97, u98, u99, u100, u101, u102, u103, u104, u105, u106, u107, u108, u109, u110, u111, u112, u113, u114, u115, u116, u117, u118, u119, u120, u121, u122, u123, u124, u125, u126, .tuple #[.int .i64 ti, .int .i64 0], .agg #[.slice (some ⟨rg, 0, none⟩) dd.r.length rc], .agg #[.slice (some ⟨fg, 0, none⟩) dd.f.length fc, .slice (some ⟨mg, 0, none⟩) dd.m.length mc], .tuple #[.int .i64 ti, .int .i64 0], .int .i64 ti, .int .i64 0, .tuple #[.slice (some ⟨wg, 0, none⟩) WL.length wlc, .int .i64 0], .agg #[.slice (some ⟨rg, 0, none⟩) dd.r.length rc], .agg #[.slice (some ⟨fg, 0, none⟩) dd.f.length fc, .slice (some ⟨mg, 0, none⟩) dd.m.length mc], .tuple #[.slice (some ⟨wg, 0, none⟩) WL.length wlc, .int .i64 0], .slice (some ⟨wg, 0, none⟩) WL.length wlc, .int .i64 0, .int .i64 0, .bool false, .bool false, .int .i64 ti, .bool false, .int .i64 0, .bool false, .bool false, .bool false, .bool false, .int .i64 0, .bool false, .bool false, undef, undef, .bool false, .bool false, .int .i64 ti, .bool false, undef, .slice (some ⟨wg, 0, none⟩) WL.length wlc, .int .i64 k, .bool true, .bool false, .slice (some ⟨wg, 0, none⟩) WL.length wlc, .int .i64 WL.length, .int .i64 t, .bool true, .pointer (some ⟨wg, t, none⟩), .int .i64 i, .int .i64 i, .bool false, .bool false, .int .i64 i, .pointer (some ⟨q8, 1, none⟩), .slice (some ⟨mg, 0, none⟩) dd.m.length mc, .int .i64 dd.m.length, .bool false, .bool false, .pointer (some ⟨q8, 0, none⟩), .slice (some ⟨fg, 0, none⟩) dd.f.length fc, x2, .pointer (some ⟨q8, 1, none⟩), .slice (some ⟨mg, 0, none⟩) dd.m.length mc, x5, .int .i64 i, .int .i64 i, .int .i64 (i + 1), x9, x10, u189, u190, u191, u192, u193, u194, u195, u196, u197, u198, u199, u200, u201, u202, u203, u204, u205, u206, u207, u208, u209, u210, u211, u212, u213, u214, u215, u216, u217, u218, u219, u220, u221, u222, u223, u224, u225, u226, u227, u228, u229, u230, u231, u232, u233, u234, u235, u236, u237, u238, u239, u240, u241, u242, u243, u244, u245, u246, u247, u248, u249, u250, u251, u252, u253, u254, u255, u256, u257, u258, u259, u260, u261, undef], defers := [] } ∧ Mem w S w.heap.size c' (rwI (.slice (some ⟨wg, 0, none⟩) WL.length wlc) WL.length WL :: rwS (.slice (some ⟨fg, 0, none⟩) dd.f.length fc) dd.f.length G :: [rwI (.slice (some ⟨lg, 0, none⟩) dd.m.length lc) dd.m.length (L.map Int.ofNat), rwI (.slice (some ⟨mg, 0, none⟩) dd.m.length mc) dd.m.length dd.m, rwS (.slice (some ⟨rg, 0, none⟩) dd.r.length rc) dd.r.length dd.r]) (onR (done 2) (rwS x2 dd.f.length G) ++ (onR (done 5) (cond (done 9) (rwI x9 E.length E) (rwI x5 dd.m.length dd.m)) ++ [])) (onX (done 11) pp (cond (done 12) (Obj.cells #[x2, x9] 43 (0, 0)) (Obj.cells #[.slice none 0 0, .slice none 0 0] 43 (0, 0))) ++ [(q8, Obj.cells #[.slice (some ⟨fg, 0, none⟩) dd.f.length fc, .slice (some ⟨mg, 0, none⟩) dd.m.length mc] 43 (0, 0)), (q7, Obj.cells #[.slice (some ⟨rg, 0, none⟩) dd.r.length rc] 41 (0, 0))]) W ∧ (done 9 = true → done 5 = true) ∧ (done 10 = true → x10 = .agg #[x2, x9] ∧ done 2 = true ∧ done 9 = true) ∧ (done 11 = true → x11 = .pointer (some ⟨pp, 0, none⟩)) ∧ (done 12 = true → done 10 = true ∧ done 11 = true)) (fun _ => trivial) (by kernel_rfl) rfl rfl ?hC ?step ?fin ⟨_, _, _, _, _, 0, rfl, HKd.out, fun h => (by cases h), fun h => (by cases h), fun h => (by cases h), fun h => (by cases h)⟩
          case hC =>
           rintro done a W ⟨x2, x5, x9, x10, x11, pp, rfl, H, e9, e10, e11, e12⟩
           exact ⟨(box_cell H (cs := #[.slice (some ⟨fg, 0, none⟩) dd.f.length fc, .slice (some ⟨mg, 0, none⟩) dd.m.length mc]) (t := 43) (p := q8) (j := 0) (by simp) rfl).1, (box_cell H (cs := #[.slice (some ⟨fg, 0, none⟩) dd.f.length fc, .slice (some ⟨mg, 0, none⟩) dd.m.length mc]) (t := 43) (p := q8) (j := 1) (by simp) rfl).1⟩
          case step =>
           intro i o hi ho done a W hd hdep hS K hK
           obtain ⟨x2, x5, x9, x10, x11, pp, rfl, H, e9, e10, e11, e12⟩ := hS
           simp only [List.mem_cons, List.not_mem_nil, or_false] at hi
           rcases hi with rfl | rfl | rfl | rfl | rfl | rfl
           ·cases ho
            clear hdep
            have n10 : done 10 = false := by
             cases h : done 10 with
             | false => rfl
             | true => exact absurd ((e10 h).2.1) (by rw [hd]; decide)
            have n12 : done 12 = false := by
             cases h : done 12 with
             | false => rfl
             | true => exact absurd ((e12 h).1) (by rw [n10]; decide)
            rw [onR_no hd, n12] at H
            go_simp
            refine ⟨rfl, (callsIn_wide.2 (kclone_spans (B := W.heap.size) (l := G) (by have h1 := HMF.out.len; have h2 := HLN.out; omega) (H.rsS (v := .slice (some ⟨fg, 0, none⟩) dd.f.length fc) (n := dd.f.length) (l := G) (.inl (by simp)) HMF.out.len))).mono ?_⟩
            rintro e W' ⟨cv, rfl, o1, hb⟩
            refine hK _ _ ?_
            rw [HMF.out.len] at o1
            have H1 := Mem.insQ (Q1 := []) (Q2 := onR (done 5) (cond (done 9) (rwI x9 E.length E) (rwI x5 dd.m.length dd.m)) ++ []) H hb (r := rwS cv dd.f.length G) o1
            refine ⟨cv, x5, x9, x10, x11, pp, rfl, ?_, e9, (fun h => by have h : done 10 = true := h; rw [n10] at h; cases h), e11, (fun h => by have h : done 12 = true := h; rw [n12] at h; cases h)⟩
            show Mem w S w.heap.size c' (rwI (.slice (some ⟨wg, 0, none⟩) WL.length wlc) WL.length WL :: rwS (.slice (some ⟨fg, 0, none⟩) dd.f.length fc) dd.f.length G :: [rwI (.slice (some ⟨lg, 0, none⟩) dd.m.length lc) dd.m.length (L.map Int.ofNat), rwI (.slice (some ⟨mg, 0, none⟩) dd.m.length mc) dd.m.length dd.m, rwS (.slice (some ⟨rg, 0, none⟩) dd.r.length rc) dd.r.length dd.r]) (onR (true) (rwS cv dd.f.length G) ++ (onR (done 5) (cond (done 9) (rwI x9 E.length E) (rwI x5 dd.m.length dd.m)) ++ [])) (onX (done 11) pp (cond (done 12) (Obj.cells #[cv, x9] 43 (0, 0)) (Obj.cells #[.slice none 0 0, .slice none 0 0] 43 (0, 0))) ++ [(q8, Obj.cells #[.slice (some ⟨fg, 0, none⟩) dd.f.length fc, .slice (some ⟨mg, 0, none⟩) dd.m.length mc] 43 (0, 0)), (q7, Obj.cells #[.slice (some ⟨rg, 0, none⟩) dd.r.length rc] 41 (0, 0))]) W'
            rw [n12]
            exact H1
           ·cases ho
            clear hdep
            have n9 : done 9 = false := by
             cases h : done 9 with
             | false => rfl
             | true => exact absurd (e9 h) (by rw [hd]; decide)
            rw [onR_no hd] at H
            go_simp
            refine ⟨rfl, (callsIn_wide.2 (kclone_ints (B := W.heap.size) (l := dd.m) (by have := HLN.out; omega) (H.rsI (v := .slice (some ⟨mg, 0, none⟩) dd.m.length mc) (n := dd.m.length) (l := dd.m) (.inl (by simp)) rfl))).mono ?_⟩
            rintro e W' ⟨cv, rfl, o1, hb⟩
            refine hK _ _ ?_
            have H1 := Mem.insQ (Q1 := onR (done 2) (rwS x2 dd.f.length G)) (Q2 := []) H hb (r := rwI cv dd.m.length dd.m) o1
            refine ⟨x2, cv, x9, x10, x11, pp, rfl, ?_, (fun h => by have h : done 9 = true := h; rw [n9] at h; cases h), e10, e11, e12⟩
            show Mem w S w.heap.size c' (rwI (.slice (some ⟨wg, 0, none⟩) WL.length wlc) WL.length WL :: rwS (.slice (some ⟨fg, 0, none⟩) dd.f.length fc) dd.f.length G :: [rwI (.slice (some ⟨lg, 0, none⟩) dd.m.length lc) dd.m.length (L.map Int.ofNat), rwI (.slice (some ⟨mg, 0, none⟩) dd.m.length mc) dd.m.length dd.m, rwS (.slice (some ⟨rg, 0, none⟩) dd.r.length rc) dd.r.length dd.r]) (onR (done 2) (rwS x2 dd.f.length G) ++ (onR (true) (cond (done 9) (rwI x9 E.length E) (rwI cv dd.m.length dd.m)) ++ [])) (onX (done 11) pp (cond (done 12) (Obj.cells #[x2, x9] 43 (0, 0)) (Obj.cells #[.slice none 0 0, .slice none 0 0] 43 (0, 0))) ++ [(q8, Obj.cells #[.slice (some ⟨fg, 0, none⟩) dd.f.length fc, .slice (some ⟨mg, 0, none⟩) dd.m.length mc] 43 (0, 0)), (q7, Obj.cells #[.slice (some ⟨rg, 0, none⟩) dd.r.length rc] 41 (0, 0))]) W'
            rw [n9]
            exact H1
           ·cases ho
            have h5 := hdep 5 (by kernel_rfl) (by simp)
            clear hdep
            have n10 : done 10 = false := by
             cases h : done 10 with
             | false => rfl
             | true => exact absurd ((e10 h).2.2) (by rw [hd]; decide)
            have n12 : done 12 = false := by
             cases h : done 12 with
             | false => rfl
             | true => exact absurd ((e12 h).1) (by rw [n10]; decide)
            rw [onR_yes h5, hd, n12] at H
            go_simp
            refine ⟨rfl, (callsIn_wide.2 (delete_own (base := S) (i := i) (L := dd.m) (by have := HLN.out; omega) HIP.out.1 (H.q (rwI x5 dd.m.length dd.m) (by simp)))).mono ?_⟩
            rintro e W' ⟨dv, rfl, o1, hg, hat⟩
            refine hK _ _ ?_
            rw [← HE.out.1] at o1
            have H1 := Mem.putQ (Q1 := onR (done 2) (rwS x2 dd.f.length G)) (Q2 := []) H hg (r' := rwI dv E.length E) o1 (.inl hat)
            refine ⟨x2, x5, dv, x10, x11, pp, rfl, ?_, fun _ => h5, (fun h => by have h : done 10 = true := h; rw [n10] at h; cases h), e11, (fun h => by have h : done 12 = true := h; rw [n12] at h; cases h)⟩
            show Mem w S w.heap.size c' (rwI (.slice (some ⟨wg, 0, none⟩) WL.length wlc) WL.length WL :: rwS (.slice (some ⟨fg, 0, none⟩) dd.f.length fc) dd.f.length G :: [rwI (.slice (some ⟨lg, 0, none⟩) dd.m.length lc) dd.m.length (L.map Int.ofNat), rwI (.slice (some ⟨mg, 0, none⟩) dd.m.length mc) dd.m.length dd.m, rwS (.slice (some ⟨rg, 0, none⟩) dd.r.length rc) dd.r.length dd.r]) (onR (done 2) (rwS x2 dd.f.length G) ++ (onR (done 5) (cond (true) (rwI dv E.length E) (rwI x5 dd.m.length dd.m)) ++ [])) (onX (done 11) pp (cond (done 12) (Obj.cells #[x2, dv] 43 (0, 0)) (Obj.cells #[.slice none 0 0, .slice none 0 0] 43 (0, 0))) ++ [(q8, Obj.cells #[.slice (some ⟨fg, 0, none⟩) dd.f.length fc, .slice (some ⟨mg, 0, none⟩) dd.m.length mc] 43 (0, 0)), (q7, Obj.cells #[.slice (some ⟨rg, 0, none⟩) dd.r.length rc] 41 (0, 0))]) W'
            rw [onR_yes h5, n12]
            exact H1
           ·cases ho
            have h2 := hdep 2 (by kernel_rfl) (by simp)
            have h9 := hdep 9 (by kernel_rfl) (by simp)
            clear hdep
            have h5 := e9 h9
            have n12 : done 12 = false := by
             cases h : done 12 with
             | false => rfl
             | true => exact absurd ((e12 h).1) (by rw [hd]; decide)
            rw [onR_yes h2, onR_yes h5, h9] at H
            obtain ⟨va2, vc2, rfl⟩ : ∃ a c, x2 = .slice a dd.f.length c := row_form (r := rwS x2 dd.f.length G) (H.q _ (by simp))
            obtain ⟨va9, vc9, rfl⟩ : ∃ a c, x9 = .slice a E.length c := row_form (r := rwI x9 E.length E) (H.q _ (by simp))
            go_simp
            refine hK _ _ ?_
            refine ⟨(.slice va2 dd.f.length vc2), x5, (.slice va9 E.length vc9), _, x11, pp, rfl, ?_, e9, fun _ => ⟨rfl, h2, h9⟩, e11, (fun h => by have h : done 12 = true := h; rw [n12] at h; cases h)⟩
            show Mem w S w.heap.size c' (rwI (.slice (some ⟨wg, 0, none⟩) WL.length wlc) WL.length WL :: rwS (.slice (some ⟨fg, 0, none⟩) dd.f.length fc) dd.f.length G :: [rwI (.slice (some ⟨lg, 0, none⟩) dd.m.length lc) dd.m.length (L.map Int.ofNat), rwI (.slice (some ⟨mg, 0, none⟩) dd.m.length mc) dd.m.length dd.m, rwS (.slice (some ⟨rg, 0, none⟩) dd.r.length rc) dd.r.length dd.r]) (onR (done 2) (rwS (.slice va2 dd.f.length vc2) dd.f.length G) ++ (onR (done 5) (cond (done 9) (rwI (.slice va9 E.length vc9) E.length E) (rwI x5 dd.m.length dd.m)) ++ [])) (onX (done 11) pp (cond (done 12) (Obj.cells #[(.slice va2 dd.f.length vc2), (.slice va9 E.length vc9)] 43 (0, 0)) (Obj.cells #[.slice none 0 0, .slice none 0 0] 43 (0, 0))) ++ [(q8, Obj.cells #[.slice (some ⟨fg, 0, none⟩) dd.f.length fc, .slice (some ⟨mg, 0, none⟩) dd.m.length mc] 43 (0, 0)), (q7, Obj.cells #[.slice (some ⟨rg, 0, none⟩) dd.r.length rc] 41 (0, 0))]) W
            rw [onR_yes h2, onR_yes h5, h9]
            exact H
           ·cases ho
            clear hdep
            have n12 : done 12 = false := by
             cases h : done 12 with
             | false => rfl
             | true => exact absurd ((e12 h).2) (by rw [hd]; decide)
            rw [onX_no hd] at H
            go_simp
            refine hK _ _ ?_
            have H1 := Mem.insX (X1 := []) H (Obj.cells #[.slice none 0 0, .slice none 0 0] 43 (0, 0))
            refine ⟨x2, x5, x9, x10, _, W.heap.size, rfl, ?_, e9, e10, fun _ => rfl, (fun h => by have h : done 12 = true := h; rw [n12] at h; cases h)⟩
            show Mem w S w.heap.size c' (rwI (.slice (some ⟨wg, 0, none⟩) WL.length wlc) WL.length WL :: rwS (.slice (some ⟨fg, 0, none⟩) dd.f.length fc) dd.f.length G :: [rwI (.slice (some ⟨lg, 0, none⟩) dd.m.length lc) dd.m.length (L.map Int.ofNat), rwI (.slice (some ⟨mg, 0, none⟩) dd.m.length mc) dd.m.length dd.m, rwS (.slice (some ⟨rg, 0, none⟩) dd.r.length rc) dd.r.length dd.r]) (onR (done 2) (rwS x2 dd.f.length G) ++ (onR (done 5) (cond (done 9) (rwI x9 E.length E) (rwI x5 dd.m.length dd.m)) ++ [])) (onX (true) W.heap.size (cond (done 12) (Obj.cells #[x2, x9] 43 (0, 0)) (Obj.cells #[.slice none 0 0, .slice none 0 0] 43 (0, 0))) ++ [(q8, Obj.cells #[.slice (some ⟨fg, 0, none⟩) dd.f.length fc, .slice (some ⟨mg, 0, none⟩) dd.m.length mc] 43 (0, 0)), (q7, Obj.cells #[.slice (some ⟨rg, 0, none⟩) dd.r.length rc] 41 (0, 0))]) _
            rw [n12]
            exact H1
           ·cases ho
            have hB := hdep 10 (by kernel_rfl) (by simp)
            have hA := hdep 11 (by kernel_rfl) (by simp)
            clear hdep
            obtain ⟨rfl, h2, h9⟩ := e10 hB
            obtain rfl := e11 hA
            have h5 := e9 h9
            rw [onR_yes h2, onR_yes h5, h9, onX_yes hA, hd] at H
            obtain ⟨va2, vc2, rfl⟩ : ∃ a c, x2 = .slice a dd.f.length c := row_form (r := rwS x2 dd.f.length G) (H.q _ (by simp))
            obtain ⟨va9, vc9, rfl⟩ : ∃ a c, x9 = .slice a E.length c := row_form (r := rwI x9 E.length E) (H.q _ (by simp))
            obtain ⟨z0, z1⟩ := box_cell H (cs := #[.slice none 0 0, .slice none 0 0]) (t := 43) (p := pp) (j := 0) (by simp) rfl
            obtain ⟨z2, z3⟩ := box_cell H (cs := #[.slice none 0 0, .slice none 0 0]) (t := 43) (p := pp) (j := 1) (by simp) rfl
            go_simp
            clear z0 z1 z2 z3
            refine hK _ _ ?_
            have H1 := Mem.putX (X1 := []) (Mem.putX (X1 := []) H 0 (.slice va2 dd.f.length vc2)) 1 (.slice va9 E.length vc9)
            refine ⟨(.slice va2 dd.f.length vc2), x5, (.slice va9 E.length vc9), _, _, pp, rfl, ?_, e9, fun _ => ⟨rfl, h2, h9⟩, fun _ => rfl, fun _ => ⟨hB, hA⟩⟩
            show Mem w S w.heap.size c' (rwI (.slice (some ⟨wg, 0, none⟩) WL.length wlc) WL.length WL :: rwS (.slice (some ⟨fg, 0, none⟩) dd.f.length fc) dd.f.length G :: [rwI (.slice (some ⟨lg, 0, none⟩) dd.m.length lc) dd.m.length (L.map Int.ofNat), rwI (.slice (some ⟨mg, 0, none⟩) dd.m.length mc) dd.m.length dd.m, rwS (.slice (some ⟨rg, 0, none⟩) dd.r.length rc) dd.r.length dd.r]) (onR (done 2) (rwS (.slice va2 dd.f.length vc2) dd.f.length G) ++ (onR (done 5) (cond (done 9) (rwI (.slice va9 E.length vc9) E.length E) (rwI x5 dd.m.length dd.m)) ++ [])) (onX (done 11) pp (cond (true) (Obj.cells #[(.slice va2 dd.f.length vc2), (.slice va9 E.length vc9)] 43 (0, 0)) (Obj.cells #[.slice none 0 0, .slice none 0 0] 43 (0, 0))) ++ [(q8, Obj.cells #[.slice (some ⟨fg, 0, none⟩) dd.f.length fc, .slice (some ⟨mg, 0, none⟩) dd.m.length mc] 43 (0, 0)), (q7, Obj.cells #[.slice (some ⟨rg, 0, none⟩) dd.r.length rc] 41 (0, 0))]) _
            rw [onR_yes h2, onR_yes h5, h9, onX_yes hA]
            exact H1
          case fin =>
           rintro done a W hall ⟨x2, x5, x9, x10, x11, pp, rfl, H, e9, e10, e11, e12⟩
           replace e9 := e9 (hall 9 (by simp))
           replace e10 := e10 (hall 10 (by simp))
           replace e11 := e11 (hall 11 (by simp))
           replace e12 := e12 (hall 12 (by simp))
           obtain ⟨rfl, -, -⟩ := e10
           obtain rfl := e11
           rw [onR_yes (hall 2 (by simp)), onR_yes (hall 5 (by simp)), hall 9 (by simp), onX_yes (hall 11 (by simp)), hall 12 (by simp)] at H
           obtain ⟨va2, vc2, rfl⟩ : ∃ a c, x2 = .slice a dd.f.length c := row_form (r := rwS x2 dd.f.length G) (H.q _ (by simp))
           obtain ⟨va9, vc9, rfl⟩ : ∃ a c, x9 = .slice a E.length c := row_form (r := rwI x9 E.length E) (H.q _ (by simp))
           obtain ⟨g2, gcap, hff⟩ : ∃ g c, (Value.slice va2 dd.f.length vc2) = .slice (some ⟨g, 0, none⟩) dd.f.length c := form_pos (r := rwS (.slice va2 dd.f.length vc2) dd.f.length G) (H.q _ (by simp)) (show 0 < dd.f.length by have h1 := HM2.out; have h2 := HLN.out; omega)
           cases hff
           have HKB : Hid (Mem w S w.heap.size c' (rwI (.slice (some ⟨wg, 0, none⟩) WL.length wlc) WL.length WL :: rwS (.slice (some ⟨fg, 0, none⟩) dd.f.length fc) dd.f.length G :: [rwI (.slice (some ⟨lg, 0, none⟩) dd.m.length lc) dd.m.length (L.map Int.ofNat), rwI (.slice (some ⟨mg, 0, none⟩) dd.m.length mc) dd.m.length dd.m, rwS (.slice (some ⟨rg, 0, none⟩) dd.r.length rc) dd.r.length dd.r]) [rwS (.slice (some ⟨g2, 0, none⟩) dd.f.length vc2) dd.f.length G, rwI (.slice va9 E.length vc9) E.length E] ((pp, Obj.cells #[.slice (some ⟨g2, 0, none⟩) dd.f.length vc2, .slice va9 E.length vc9] 43 (0, 0)) :: [(q8, Obj.cells #[.slice (some ⟨fg, 0, none⟩) dd.f.length fc, .slice (some ⟨mg, 0, none⟩) dd.m.length mc] 43 (0, 0)), (q7, Obj.cells #[.slice (some ⟨rg, 0, none⟩) dd.r.length rc] 41 (0, 0))]) W) := Lib.hid H
           clear H hall e9 e12 HKd hC
           dsimp only
           have hfl : 1 ≤ dd.f.length ∧ dd.f.length ≤ 9 ∧ dd.m.length = dd.f.length + 1 := by have h1 := HM2.out; have h2 := HLN.out; omega
           have hcap2 : dd.f.length ≤ vc2 := own_cap (HKB.out.q (rwS (.slice (some ⟨g2, 0, none⟩) dd.f.length vc2) dd.f.length G) (by simp))
           obtain ⟨z0, z1⟩ := box_cell HKB.out (cs := #[.slice (some ⟨g2, 0, none⟩) dd.f.length vc2, .slice va9 E.length vc9]) (t := 43) (p := pp) (j := 0) (by simp) rfl
           by_cases hi0 : i = 0
           ·have HI0 := Lib.hid hi0
            have de : ((i : Int) == 0) = true := by rw [beq_iff_eq]; omega
            have hf1 : (1 : Int) ≤ (dd.f.length : Int) := by omega
            have hf2 : 1 ≤ dd.f.length := hfl.1
            have HFL := Lib.hid hfl
            clear hi0 hfl
            go_upto_region 37 with (fail)
            obtain ⟨ad, had⟩ : ∃ ad : Option Addr, ad = if vc2 = 1 then some ⟨g2, 0, none⟩ else some ⟨g2, 2, none⟩ := ⟨_, rfl⟩
            rw [← had]
            have HKz := Lib.hid (Mem.putX (X1 := []) HKB.out 0 (.slice ad (dd.f.length - 1) (vc2 - 1)))
            have hrs2 := rs_tail (HKz.out.q (rwS (.slice (some ⟨g2, 0, none⟩) dd.f.length vc2) dd.f.length G) (by simp)) HFL.out.1 hcap2
            rw [← had] at hrs2
            have HRS : Hid (RS (W.setCell ⟨pp, 0, none⟩ (.slice ad (dd.f.length - 1) (vc2 - 1))).heap.size (W.setCell ⟨pp, 0, none⟩ (.slice ad (dd.f.length - 1) (vc2 - 1))) (.slice ad (dd.f.length - 1) (vc2 - 1)) (woF G i).length (spans (woF G i))) := Lib.hid (by
             have e : woF G i = G.drop 1 := by rw [HI0.out]; rfl
             rw [e]; exact hrs2)
            clear had hrs2 z0 z1 de hf1 hf2 hcap2 HKB
            generalize W.setCell ⟨pp, 0, none⟩ (.slice ad (dd.f.length - 1) (vc2 - 1)) = Wz at HKz HRS ⊢
            have b0 := (box_cell HKz.out (cs := #[.slice (some ⟨rg, 0, none⟩) dd.r.length rc]) (t := 41) (p := q7) (j := 0) (by simp) rfl).1
            have b3 := (box_cell HKz.out (cs := #[.slice ad (dd.f.length - 1) (vc2 - 1), .slice va9 E.length vc9]) (t := 43) (p := pp) (j := 0) (by simp) rfl).1
            have b4 := (box_cell HKz.out (cs := #[.slice ad (dd.f.length - 1) (vc2 - 1), .slice va9 E.length vc9]) (t := 43) (p := pp) (j := 1) (by simp) rfl).1
            go_wp2_with fail
            refine (Readings_any (B := Wz.heap.size) (d := wo (withF dd G) i) (Nat.le_refl _) (HKz.out.rsS (v := .slice (some ⟨rg, 0, none⟩) dd.r.length rc) (n := dd.r.length) (l := dd.r) (.inl (by simp)) rfl) (fun a c h => by cases h; exact own_cap (HKz.out.r (rwS (.slice (some ⟨rg, 0, none⟩) dd.r.length rc) dd.r.length dd.r) (by simp))) HRS.out (show RS _ _ _ (dd.m.eraseIdx i).length (ints (dd.m.eraseIdx i)) from by rw [← HE.out.1]; exact HKz.out.rsI (v := .slice va9 E.length vc9) (n := E.length) (l := E) (.inr (by simp)) rfl)).mono ?_
            rintro e wy ⟨rfl, hb⟩
            have HKE := Lib.hid (HKz.out.grow hb)
            rw [read_ok (moved_wo_err (by omega) HP.out HMF.out HIP.out.1 HM2.out)]
            obtain ⟨m1, hm1⟩ : ∃ m1, m1 = total (wo (withF dd G) i) := ⟨_, rfl⟩
            have hm2 : 1 ≤ m1 := by rw [hm1]; exact HIP.out.2
            rw [← hm1]
            have dt : decide ((m1 : Int) < 1) = false := by rw [decide_eq_false_iff_not]; omega
            have dt2 : decide (m1 < 1) = false := by rw [decide_eq_false_iff_not]; omega
            clear hb HKz b0 b3 b4 hm1 hm2
            go_wp2
            go_roundw
            case rel => exact ⟨t + 1, by omega, by go_num, Lib.hid (HKE.out.less (fun _ h => h) (List.nil_sublist _) (.cons _ (List.Sublist.refl _)))⟩
            case measure => simp [intOf]; omega
           ·have de : ((i : Int) == 0) = false := by rw [beq_eq_false_iff_ne]; omega
            obtain ⟨j, hj⟩ : ∃ j, j = i - 1 := ⟨_, rfl⟩
            have HJ : Hid (i = j + 1) := Lib.hid (by omega)
            have ej : IntKind.i64.wrap ((i : Int) - 1) = (j : Int) := by rw [IntWalk.i64_in _ (by omega)]; omega
            have hjc : (j : Int) ≤ (vc2 : Int) := by have := HIP.out.1; omega
            have hjc2 : j ≤ vc2 := by have := HIP.out.1; omega
            have b1 := (box_cell HKB.out (cs := #[.slice (some ⟨fg, 0, none⟩) dd.f.length fc, .slice (some ⟨mg, 0, none⟩) dd.m.length mc]) (t := 43) (p := q8) (j := 0) (by simp) rfl).1
            by_cases hil : i = dd.f.length
            ·have HIL := Lib.hid hil
             have df : ((i : Int) == (dd.f.length : Int)) = true := by rw [beq_iff_eq]; omega
             have HFL := Lib.hid hfl
             clear hi0 hfl hil hj
             go_upto_region 37 with (fail)
             have HKz := Lib.hid (Mem.putX (X1 := []) HKB.out 0 (.slice (some ⟨g2, 0, none⟩) j vc2))
             have hrs2 := rs_init (HKz.out.q (rwS (.slice (some ⟨g2, 0, none⟩) dd.f.length vc2) dd.f.length G) (by simp)) (j := j) (by have h1 := HIL.out; have h2 := HJ.out; omega)
             have HRS : Hid (RS (W.setCell ⟨pp, 0, none⟩ (.slice (some ⟨g2, 0, none⟩) j vc2)).heap.size (W.setCell ⟨pp, 0, none⟩ (.slice (some ⟨g2, 0, none⟩) j vc2)) (.slice (some ⟨g2, 0, none⟩) j vc2) (woF G i).length (spans (woF G i))) := Lib.hid (by
              have e : woF G i = G.take j := by
               unfold woF
               rw [if_neg (by have := HJ.out; omega), if_pos (by rw [HMF.out.len]; exact HIL.out), HMF.out.len, show dd.f.length - 1 = j by have h1 := HIL.out; have h2 := HJ.out; omega]
              rw [e]; exact hrs2)
             clear hrs2 z0 z1 de df ej hjc hjc2 b1 hcap2 HKB
             generalize W.setCell ⟨pp, 0, none⟩ (.slice (some ⟨g2, 0, none⟩) j vc2) = Wz at HKz HRS ⊢
             have b0 := (box_cell HKz.out (cs := #[.slice (some ⟨rg, 0, none⟩) dd.r.length rc]) (t := 41) (p := q7) (j := 0) (by simp) rfl).1
             have b3 := (box_cell HKz.out (cs := #[.slice (some ⟨g2, 0, none⟩) j vc2, .slice va9 E.length vc9]) (t := 43) (p := pp) (j := 0) (by simp) rfl).1
             have b4 := (box_cell HKz.out (cs := #[.slice (some ⟨g2, 0, none⟩) j vc2, .slice va9 E.length vc9]) (t := 43) (p := pp) (j := 1) (by simp) rfl).1
             go_wp2_with fail
             refine (Readings_any (B := Wz.heap.size) (d := wo (withF dd G) i) (Nat.le_refl _) (HKz.out.rsS (v := .slice (some ⟨rg, 0, none⟩) dd.r.length rc) (n := dd.r.length) (l := dd.r) (.inl (by simp)) rfl) (fun a c h => by cases h; exact own_cap (HKz.out.r (rwS (.slice (some ⟨rg, 0, none⟩) dd.r.length rc) dd.r.length dd.r) (by simp))) HRS.out (show RS _ _ _ (dd.m.eraseIdx i).length (ints (dd.m.eraseIdx i)) from by rw [← HE.out.1]; exact HKz.out.rsI (v := .slice va9 E.length vc9) (n := E.length) (l := E) (.inr (by simp)) rfl)).mono ?_
             rintro e wy ⟨rfl, hb⟩
             have HKE := Lib.hid (HKz.out.grow hb)
             rw [read_ok (moved_wo_err (by omega) HP.out HMF.out HIP.out.1 HM2.out)]
             obtain ⟨m1, hm1⟩ : ∃ m1, m1 = total (wo (withF dd G) i) := ⟨_, rfl⟩
             have hm2 : 1 ≤ m1 := by rw [hm1]; exact HIP.out.2
             rw [← hm1]
             have dt : decide ((m1 : Int) < 1) = false := by rw [decide_eq_false_iff_not]; omega
             have dt2 : decide (m1 < 1) = false := by rw [decide_eq_false_iff_not]; omega
             clear hb HKz b0 b3 b4 hm1 hm2
             go_wp2
             go_roundw
             case rel => exact ⟨t + 1, by omega, by go_num, Lib.hid (HKE.out.less (fun _ h => h) (List.nil_sublist _) (.cons _ (List.Sublist.refl _)))⟩
             case measure => simp [intOf]; omega
            ·have HIL : Hid (i < dd.f.length ∧ 0 < i) := Lib.hid (by have := HIP.out.1; omega)
             have df : ((i : Int) == (dd.f.length : Int)) = false := by rw [beq_eq_false_iff_ne]; omega
             have HFL := Lib.hid hfl
             clear hi0 hfl hil hj
             obtain ⟨k0, k1⟩ := HKB.out.cellS (g := fg) (n := dd.f.length) (cap := fc) (l := G) (.inl (by simp)) (j := j) (by rw [HMF.out.len]; have h1 := HJ.out; have h2 := HIL.out; omega)
             obtain ⟨k2, k3⟩ := HKB.out.cellS (g := fg) (n := dd.f.length) (cap := fc) (l := G) (.inl (by simp)) (j := i) (by rw [HMF.out.len]; exact HIL.out.1)
             obtain ⟨sa, hsa⟩ : ∃ x, x = (G.getD j (0, 0)).1 := ⟨_, rfl⟩
             obtain ⟨sb, hsb⟩ : ∃ x, x = (G.getD j (0, 0)).2 := ⟨_, rfl⟩
             obtain ⟨sc, hsc⟩ : ∃ x, x = (G.getD i (0, 0)).1 := ⟨_, rfl⟩
             obtain ⟨sd, hsd⟩ : ∃ x, x = (G.getD i (0, 0)).2 := ⟨_, rfl⟩
             have hs1 := HMF.out.ok _ (getD_mem (z := (0, 0)) (show j < G.length by rw [HMF.out.len]; have h1 := HJ.out; have h2 := HIL.out; omega))
             have hs2 := HMF.out.ok _ (getD_mem (z := (0, 0)) (show i < G.length by rw [HMF.out.len]; exact HIL.out.1))
             rw [← hsa, ← hsb] at hs1
             rw [← hsc, ← hsd] at hs2
             rw [← hsa] at k0
             rw [← hsb] at k1
             rw [← hsc] at k2
             rw [← hsd] at k3
             have ex : IntKind.i64.wrap (sa + sc) = sa + sc := IntWalk.i64_in _ (by omega)
             have ey : IntKind.i64.wrap (sb + sd) = sb + sd := IntWalk.i64_in _ (by omega)
             have HWF : Hid (woF G i = (G.set j (sa + sc, sb + sd)).eraseIdx i) := Lib.hid (by
              unfold woF
              rw [if_neg (by have := HIL.out; omega), if_neg (by rw [HMF.out.len]; have := HIL.out; omega), show i - 1 = j by have := HJ.out; omega, ← hsa, ← hsb, ← hsc, ← hsd])
             have hjf : (j : Int) < (dd.f.length : Int) := by have h1 := HJ.out; have h2 := HIL.out; omega
             have hif : (i : Int) < (dd.f.length : Int) := by have h2 := HIL.out; omega
             have hj10 : j < 10 := by have h1 := HJ.out; omega
             have HSA := Lib.hid (And.intro hsa (And.intro hsb (And.intro hsc hsd)))
             clear hs1 hs2 hsa hsb hsc hsd
             go_upto_region 31 with (fail)
             have HCF : Hid (∀ F W, Mem w S w.heap.size c' (rwI (.slice (some ⟨wg, 0, none⟩) WL.length wlc) WL.length WL :: rwS (.slice (some ⟨fg, 0, none⟩) dd.f.length fc) dd.f.length G :: [rwI (.slice (some ⟨lg, 0, none⟩) dd.m.length lc) dd.m.length (L.map Int.ofNat), rwI (.slice (some ⟨mg, 0, none⟩) dd.m.length mc) dd.m.length dd.m, rwS (.slice (some ⟨rg, 0, none⟩) dd.r.length rc) dd.r.length dd.r]) [rwS (.slice (some ⟨g2, 0, none⟩) dd.f.length vc2) dd.f.length F, rwI (.slice va9 E.length vc9) E.length E] ((pp, Obj.cells #[.slice (some ⟨g2, 0, none⟩) dd.f.length vc2, .slice va9 E.length vc9] 43 (0, 0)) :: [(q8, Obj.cells #[.slice (some ⟨fg, 0, none⟩) dd.f.length fc, .slice (some ⟨mg, 0, none⟩) dd.m.length mc] 43 (0, 0)), (q7, Obj.cells #[.slice (some ⟨rg, 0, none⟩) dd.r.length rc] 41 (0, 0))]) W → (fun W => W.cell? ⟨pp, 0, none⟩ = some (.slice (some ⟨g2, 0, none⟩) dd.f.length vc2) ∧ W.cell? ⟨q8, 0, none⟩ = some (.slice (some ⟨fg, 0, none⟩) dd.f.length fc) ∧ (W.cell? ⟨fg, j * 2, none⟩ = some (.int .i64 sa) ∧ W.cell? ⟨fg, j * 2 + 1, none⟩ = some (.int .i64 sb)) ∧ (W.cell? ⟨fg, i * 2, none⟩ = some (.int .i64 sc) ∧ W.cell? ⟨fg, i * 2 + 1, none⟩ = some (.int .i64 sd))) W) := Lib.hid fun F W h => by
              have hl := HMF.out.len
              have h1 := h.cellS (g := fg) (n := dd.f.length) (cap := fc) (l := G) (.inl (by simp)) (j := j) (by omega)
              have h2 := h.cellS (g := fg) (n := dd.f.length) (cap := fc) (l := G) (.inl (by simp)) (j := i) (by omega)
              rw [← HSA.out.1, ← HSA.out.2.1] at h1
              rw [← HSA.out.2.2.1, ← HSA.out.2.2.2] at h2
              exact ⟨(box_cell h (cs := #[.slice (some ⟨g2, 0, none⟩) dd.f.length vc2, .slice va9 E.length vc9]) (t := 43) (p := pp) (j := 0) (by simp) rfl).1, (box_cell h (cs := #[.slice (some ⟨fg, 0, none⟩) dd.f.length fc, .slice (some ⟨mg, 0, none⟩) dd.m.length mc]) (t := 43) (p := q8) (j := 0) (by simp) rfl).1, h1, h2⟩
             have HKd := Lib.hid HKB.out.drew
             have hC : (fun W => W.cell? ⟨pp, 0, none⟩ = some (.slice (some ⟨g2, 0, none⟩) dd.f.length vc2) ∧ W.cell? ⟨q8, 0, none⟩ = some (.slice (some ⟨fg, 0, none⟩) dd.f.length fc) ∧ (W.cell? ⟨fg, j * 2, none⟩ = some (.int .i64 sa) ∧ W.cell? ⟨fg, j * 2 + 1, none⟩ = some (.int .i64 sb)) ∧ (W.cell? ⟨fg, i * 2, none⟩ = some (.int .i64 sc) ∧ W.cell? ⟨fg, i * 2 + 1, none⟩ = some (.int .i64 sd))) W.drew := ⟨(box_cell HKd.out (cs := #[.slice (some ⟨g2, 0, none⟩) dd.f.length vc2, .slice va9 E.length vc9]) (t := 43) (p := pp) (j := 0) (by simp) rfl).1, (box_cell HKd.out (cs := #[.slice (some ⟨fg, 0, none⟩) dd.f.length fc, .slice (some ⟨mg, 0, none⟩) dd.m.length mc]) (t := 43) (p := q8) (j := 0) (by simp) rfl).1, ⟨by simpa using k0, by simpa using k1⟩, by simpa using k2, by simpa using k3⟩
             clear HKB k0 k1 k2 k3 z0 z1 b1
             generalize hW0 : W.drew = W3 at HKd hC
             refine Lim.regC' (fun W => W.cell? ⟨pp, 0, none⟩ = some (.slice (some ⟨g2, 0, none⟩) dd.f.length vc2) ∧ W.cell? ⟨q8, 0, none⟩ = some (.slice (some ⟨fg, 0, none⟩) dd.f.length fc) ∧ (W.cell? ⟨fg, j * 2, none⟩ = some (.int .i64 sa) ∧ W.cell? ⟨fg, j * 2 + 1, none⟩ = some (.int .i64 sb)) ∧ (W.cell? ⟨fg, i * 2, none⟩ = some (.int .i64 sc) ∧ W.cell? ⟨fg, i * 2 + 1, none⟩ = some (.int .i64 sd))) [] #[false, false, false, false, false, false, false, false, false, false, false, false, false, false, false, false, false, false, false, false, false, false, false, false, false, false, false, false, false, false, false, false, false, false, false] (by kernel_rfl) rfl ?_
             rw [hW0]; clear hW0
             refine Lim.stepR 0 (fun _ => trivial) rfl (by kernel_rfl) (fun _ _ _ _ h => h) hC rfl ?_; apply Exists.intro; refine ⟨?_, ?_⟩
             ·rintro w ⟨r0, r1, ⟨r2, r3⟩, r4, r5⟩; go_simp; try with_reducible rfl
             simp only [Act.put, List.setIfInBounds_toArray, List.set_cons_succ, List.set_cons_zero]
             refine Lim.stepR 1 (fun _ => trivial) rfl (by kernel_rfl) (fun _ _ _ _ h => h) hC rfl ?_; apply Exists.intro; refine ⟨?_, ?_⟩
             ·rintro w ⟨r0, r1, ⟨r2, r3⟩, r4, r5⟩; go_simp; try with_reducible rfl
             simp only [Act.put, List.setIfInBounds_toArray, List.set_cons_succ, List.set_cons_zero]
             refine Lim.stepR 2 (fun _ => trivial) rfl (by kernel_rfl) (fun _ _ _ _ h => h) hC rfl ?_; apply Exists.intro; refine ⟨?_, ?_⟩
             ·rintro w ⟨r0, r1, ⟨r2, r3⟩, r4, r5⟩; go_simp; try with_reducible rfl
             simp only [Act.put, List.setIfInBounds_toArray, List.set_cons_succ, List.set_cons_zero]
             refine Lim.stepR 3 (fun _ => trivial) rfl (by kernel_rfl) (fun _ _ _ _ h => h) hC rfl ?_; apply Exists.intro; refine ⟨?_, ?_⟩
             ·rintro w ⟨r0, r1, ⟨r2, r3⟩, r4, r5⟩; go_simp; try with_reducible rfl
             simp only [Act.put, List.setIfInBounds_toArray, List.set_cons_succ, List.set_cons_zero]
             refine Lim.stepR 4 (fun _ => trivial) rfl (by kernel_rfl) (fun _ _ _ _ h => h) hC rfl ?_; apply Exists.intro; refine ⟨?_, ?_⟩
             ·rintro w ⟨r0, r1, ⟨r2, r3⟩, r4, r5⟩; go_simp; try with_reducible rfl
             simp only [Act.put, List.setIfInBounds_toArray, List.set_cons_succ, List.set_cons_zero]
             refine Lim.stepR 5 (fun _ => trivial) rfl (by kernel_rfl) (fun _ _ _ _ h => h) hC rfl ?_; apply Exists.intro; refine ⟨?_, ?_⟩
             ·rintro w ⟨r0, r1, ⟨r2, r3⟩, r4, r5⟩; go_simp; try with_reducible rfl
             simp only [Act.put, List.setIfInBounds_toArray, List.set_cons_succ, List.set_cons_zero]
             refine Lim.stepR 6 (fun _ => trivial) rfl (by kernel_rfl) (fun _ _ _ _ h => h) hC rfl ?_; apply Exists.intro; refine ⟨?_, ?_⟩
             ·rintro w ⟨r0, r1, ⟨r2, r3⟩, r4, r5⟩; go_simp; try with_reducible rfl
             simp only [Act.put, List.setIfInBounds_toArray, List.set_cons_succ, List.set_cons_zero]
             refine Lim.stepR 7 (fun _ => trivial) rfl (by kernel_rfl) (fun _ _ _ _ h => h) hC rfl ?_; apply Exists.intro; refine ⟨?_, ?_⟩
             ·rintro w ⟨r0, r1, ⟨r2, r3⟩, r4, r5⟩; go_simp; try with_reducible rfl
             simp only [Act.put, List.setIfInBounds_toArray, List.set_cons_succ, List.set_cons_zero]
             refine Lim.stepR 8 (fun _ => trivial) rfl (by kernel_rfl) (fun _ _ _ _ h => h) hC rfl ?_; apply Exists.intro; refine ⟨?_, ?_⟩
             ·rintro w ⟨r0, r1, ⟨r2, r3⟩, r4, r5⟩; go_simp; try with_reducible rfl
             simp only [Act.put, List.setIfInBounds_toArray, List.set_cons_succ, List.set_cons_zero]
             refine Lim.stepR 9 (fun _ => trivial) rfl (by kernel_rfl) (fun _ _ _ _ h => h) hC rfl ?_; apply Exists.intro; refine ⟨?_, ?_⟩
             ·rintro w ⟨r0, r1, ⟨r2, r3⟩, r4, r5⟩; go_simp; try with_reducible rfl
             simp only [Act.put, List.setIfInBounds_toArray, List.set_cons_succ, List.set_cons_zero]
             refine Lim.stepR 10 (fun _ => trivial) rfl (by kernel_rfl) (fun _ _ _ _ h => h) hC rfl ?_; apply Exists.intro; refine ⟨?_, ?_⟩
             ·rintro w ⟨r0, r1, ⟨r2, r3⟩, r4, r5⟩; go_simp; try with_reducible rfl
             simp only [Act.put, List.setIfInBounds_toArray, List.set_cons_succ, List.set_cons_zero]
             refine Lim.stepR 11 (fun _ => trivial) rfl (by kernel_rfl) (fun _ _ _ _ h => h) hC rfl ?_; apply Exists.intro; refine ⟨?_, ?_⟩
             ·rintro w ⟨r0, r1, ⟨r2, r3⟩, r4, r5⟩; go_simp; try with_reducible rfl
             simp only [Act.put, List.setIfInBounds_toArray, List.set_cons_succ, List.set_cons_zero]
             refine Lim.stepR 12 (fun _ => trivial) rfl (by kernel_rfl) (fun _ _ _ _ h => h) hC rfl ?_; apply Exists.intro; refine ⟨?_, ?_⟩
             ·rintro w ⟨r0, r1, ⟨r2, r3⟩, r4, r5⟩; go_simp; try with_reducible rfl
             simp only [Act.put, List.setIfInBounds_toArray, List.set_cons_succ, List.set_cons_zero]
             refine Lim.stepR 13 (fun _ => trivial) rfl (by kernel_rfl) (fun _ _ _ _ h => h) hC rfl ?_; apply Exists.intro; refine ⟨?_, ?_⟩
             ·rintro w ⟨r0, r1, ⟨r2, r3⟩, r4, r5⟩; go_simp; try with_reducible rfl
             simp only [Act.put, List.setIfInBounds_toArray, List.set_cons_succ, List.set_cons_zero]
             refine Lim.stepR 14 (fun _ => trivial) rfl (by kernel_rfl) (fun _ _ _ _ h => h) hC rfl ?_; apply Exists.intro; refine ⟨?_, ?_⟩
             ·rintro w ⟨r0, r1, ⟨r2, r3⟩, r4, r5⟩; go_simp; try with_reducible rfl
             simp only [Act.put, List.setIfInBounds_toArray, List.set_cons_succ, List.set_cons_zero]
             refine Lim.stepR 15 (fun _ => trivial) rfl (by kernel_rfl) (fun _ _ _ _ h => h) hC rfl ?_; apply Exists.intro; refine ⟨?_, ?_⟩
             ·rintro w ⟨r0, r1, ⟨r2, r3⟩, r4, r5⟩; go_simp; try with_reducible rfl
             simp only [Act.put, List.setIfInBounds_toArray, List.set_cons_succ, List.set_cons_zero]
             refine Lim.stepR 16 (fun _ => trivial) rfl (by kernel_rfl) (fun _ _ _ _ h => h) hC rfl ?_; apply Exists.intro; refine ⟨?_, ?_⟩
             ·rintro w ⟨r0, r1, ⟨r2, r3⟩, r4, r5⟩; go_simp; try with_reducible rfl
             simp only [Act.put, List.setIfInBounds_toArray, List.set_cons_succ, List.set_cons_zero]
             refine Lim.stepR 17 (fun _ => trivial) rfl (by kernel_rfl) (fun _ _ _ _ h => h) hC rfl ?_; apply Exists.intro; refine ⟨?_, ?_⟩
             ·rintro w ⟨r0, r1, ⟨r2, r3⟩, r4, r5⟩; go_simp; try with_reducible rfl
             simp only [Act.put, List.setIfInBounds_toArray, List.set_cons_succ, List.set_cons_zero]
             refine Lim.stepR 18 (fun _ => trivial) rfl (by kernel_rfl) (fun _ _ _ _ h => h) hC rfl ?_; apply Exists.intro; refine ⟨?_, ?_⟩
             ·rintro w ⟨r0, r1, ⟨r2, r3⟩, r4, r5⟩; go_simp; try with_reducible rfl
             simp only [Act.put, List.setIfInBounds_toArray, List.set_cons_succ, List.set_cons_zero]
             refine Lim.stepR 19 (fun _ => trivial) rfl (by kernel_rfl) (fun _ _ _ _ h => h) hC rfl ?_; apply Exists.intro; refine ⟨?_, ?_⟩
             ·rintro w ⟨r0, r1, ⟨r2, r3⟩, r4, r5⟩; go_simp; try with_reducible rfl
             simp only [Act.put, List.setIfInBounds_toArray, List.set_cons_succ, List.set_cons_zero]
             refine Lim.stepR 20 (fun _ => trivial) rfl (by kernel_rfl) (fun _ _ _ _ h => h) hC rfl ?_; apply Exists.intro; refine ⟨?_, ?_⟩
             ·rintro w ⟨r0, r1, ⟨r2, r3⟩, r4, r5⟩; go_simp; try with_reducible rfl
             simp only [Act.put, List.setIfInBounds_toArray, List.set_cons_succ, List.set_cons_zero]
             refine Lim.stepR 21 (fun _ => trivial) rfl (by kernel_rfl) (fun _ _ _ _ h => h) hC rfl ?_; apply Exists.intro; refine ⟨?_, ?_⟩
             ·rintro w ⟨r0, r1, ⟨r2, r3⟩, r4, r5⟩; go_simp; try with_reducible rfl
             simp only [Act.put, List.setIfInBounds_toArray, List.set_cons_succ, List.set_cons_zero]
             refine Lim.stepR 22 (fun _ => trivial) rfl (by kernel_rfl) (fun _ _ _ _ h => h) hC rfl ?_; apply Exists.intro; refine ⟨?_, ?_⟩
             ·rintro w ⟨r0, r1, ⟨r2, r3⟩, r4, r5⟩; go_simp; try with_reducible rfl
             simp only [Act.put, List.setIfInBounds_toArray, List.set_cons_succ, List.set_cons_zero]
             refine Lim.stepR 23 (fun _ => trivial) rfl (by kernel_rfl) (fun _ _ _ _ h => h) hC rfl ?_; apply Exists.intro; refine ⟨?_, ?_⟩
             ·rintro w ⟨r0, r1, ⟨r2, r3⟩, r4, r5⟩; go_simp; try with_reducible rfl
             simp only [Act.put, List.setIfInBounds_toArray, List.set_cons_succ, List.set_cons_zero]
             refine Lim.stepR 24 (fun _ => trivial) rfl (by kernel_rfl) (fun _ _ _ _ h => h) hC rfl ?_; apply Exists.intro; refine ⟨?_, ?_⟩
             ·rintro w ⟨r0, r1, ⟨r2, r3⟩, r4, r5⟩; go_simp; try with_reducible rfl
             simp only [Act.put, List.setIfInBounds_toArray, List.set_cons_succ, List.set_cons_zero]
             refine Lim.stepR 25 (fun _ => trivial) rfl (by kernel_rfl) (fun _ _ _ _ h => h) hC rfl ?_; apply Exists.intro; refine ⟨?_, ?_⟩
             ·rintro w ⟨r0, r1, ⟨r2, r3⟩, r4, r5⟩; go_simp; try with_reducible rfl
             simp only [Act.put, List.setIfInBounds_toArray, List.set_cons_succ, List.set_cons_zero]
             refine Lim.stepR 26 (fun _ => trivial) rfl (by kernel_rfl) (fun _ _ _ _ h => h) hC rfl ?_; apply Exists.intro; refine ⟨?_, ?_⟩
             ·rintro w ⟨r0, r1, ⟨r2, r3⟩, r4, r5⟩; go_simp; try with_reducible rfl
             simp only [Act.put, List.setIfInBounds_toArray, List.set_cons_succ, List.set_cons_zero]
             refine Lim.stepR 27 (fun _ => trivial) rfl (by kernel_rfl) (fun _ _ _ _ h => h) hC rfl ?_; apply Exists.intro; refine ⟨?_, ?_⟩
             ·rintro w ⟨r0, r1, ⟨r2, r3⟩, r4, r5⟩; go_simp; try with_reducible rfl
             simp only [Act.put, List.setIfInBounds_toArray, List.set_cons_succ, List.set_cons_zero]
             refine Lim.stepR 28 (fun _ => trivial) rfl (by kernel_rfl) (fun _ _ _ _ h => h) hC rfl ?_; apply Exists.intro; refine ⟨?_, ?_⟩
             ·rintro w ⟨r0, r1, ⟨r2, r3⟩, r4, r5⟩; go_simp; try with_reducible rfl
             simp only [Act.put, List.setIfInBounds_toArray, List.set_cons_succ, List.set_cons_zero]
             refine Lim.stepR 29 (fun _ => trivial) rfl (by kernel_rfl) (fun _ _ _ _ h => h) hC rfl ?_; apply Exists.intro; refine ⟨?_, ?_⟩
             ·rintro w ⟨r0, r1, ⟨r2, r3⟩, r4, r5⟩; go_simp; try with_reducible rfl
             simp only [Act.put, List.setIfInBounds_toArray, List.set_cons_succ, List.set_cons_zero]
             refine Lim.stepR 30 (fun _ => trivial) rfl (by kernel_rfl) (fun _ _ _ _ h => h) hC rfl ?_; apply Exists.intro; refine ⟨?_, ?_⟩
             ·rintro w ⟨r0, r1, ⟨r2, r3⟩, r4, r5⟩; go_simp; try with_reducible rfl
             simp only [Act.put, List.setIfInBounds_toArray, List.set_cons_succ, List.set_cons_zero]
             refine Lim.stepR 31 (fun _ => trivial) rfl (by kernel_rfl) (fun _ _ _ _ h => h) hC rfl ?_; apply Exists.intro; refine ⟨?_, ?_⟩
             ·rintro w ⟨r0, r1, ⟨r2, r3⟩, r4, r5⟩; go_simp; try with_reducible rfl
             simp only [Act.put, List.setIfInBounds_toArray, List.set_cons_succ, List.set_cons_zero]
             refine Lim.stepE 32 (fun _ => trivial) rfl (by kernel_rfl) rfl (fun K hK => ?_)   -- E call
             go_simp
             refine ⟨rfl, (callsIn_wide.2 (span_any (sa + sc) (sb + sd) _)).mono ?_⟩
             rintro e W4 ⟨rfl, hb⟩
             have HKe := Lib.hid (HKd.out.grow hb)
             have hC2 : (fun W => W.cell? ⟨pp, 0, none⟩ = some (.slice (some ⟨g2, 0, none⟩) dd.f.length vc2) ∧ W.cell? ⟨q8, 0, none⟩ = some (.slice (some ⟨fg, 0, none⟩) dd.f.length fc) ∧ (W.cell? ⟨fg, j * 2, none⟩ = some (.int .i64 sa) ∧ W.cell? ⟨fg, j * 2 + 1, none⟩ = some (.int .i64 sb)) ∧ (W.cell? ⟨fg, i * 2, none⟩ = some (.int .i64 sc) ∧ W.cell? ⟨fg, i * 2 + 1, none⟩ = some (.int .i64 sd))) W4 := ⟨hb.on hC.1, hb.on hC.2.1, ⟨hb.on hC.2.2.1.1, hb.on hC.2.2.1.2⟩, hb.on hC.2.2.2.1, hb.on hC.2.2.2.2⟩
             refine hK _ _ hC2 ?_
             clear hK hb HKd hC
             simp only [Act.put, List.setIfInBounds_toArray, List.set_cons_succ, List.set_cons_zero]
             refine Lim.stepR 33 (fun _ => trivial) rfl (by kernel_rfl) (fun _ _ _ _ h => h) hC2 rfl ?_; apply Exists.intro; refine ⟨?_, ?_⟩
             ·rintro w ⟨r0, r1, ⟨r2, r3⟩, r4, r5⟩; go_simp; try with_reducible rfl
             simp only [Act.put, List.setIfInBounds_toArray, List.set_cons_succ, List.set_cons_zero]
             refine Lim.stepE 34 (fun _ => trivial) rfl (by kernel_rfl) rfl (fun K hK => ?_)   -- E store
             obtain ⟨z0, z1⟩ := HKe.out.cellS (g := g2) (n := dd.f.length) (cap := vc2) (l := G) (.inr (by simp)) (j := j) (by rw [HMF.out.len]; omega)
             have y0 : W4.frozen? ⟨g2, j * 2, none⟩ = false := row_frz (HKe.out.q (rwS (.slice (some ⟨g2, 0, none⟩) dd.f.length vc2) dd.f.length G) (by simp)) rfl _
             have y1 : W4.frozen? ⟨g2, j * 2 + 1, none⟩ = false := row_frz (HKe.out.q (rwS (.slice (some ⟨g2, 0, none⟩) dd.f.length vc2) dd.f.length G) (by simp)) rfl _
             go_simp
             have HKf : Hid (Mem w S w.heap.size c' (rwI (.slice (some ⟨wg, 0, none⟩) WL.length wlc) WL.length WL :: rwS (.slice (some ⟨fg, 0, none⟩) dd.f.length fc) dd.f.length G :: [rwI (.slice (some ⟨lg, 0, none⟩) dd.m.length lc) dd.m.length (L.map Int.ofNat), rwI (.slice (some ⟨mg, 0, none⟩) dd.m.length mc) dd.m.length dd.m, rwS (.slice (some ⟨rg, 0, none⟩) dd.r.length rc) dd.r.length dd.r]) [rwS (.slice (some ⟨g2, 0, none⟩) dd.f.length vc2) dd.f.length (G.set j (sa + sc, sb + sd)), rwI (.slice va9 E.length vc9) E.length E] ((pp, Obj.cells #[.slice (some ⟨g2, 0, none⟩) dd.f.length vc2, .slice va9 E.length vc9] 43 (0, 0)) :: [(q8, Obj.cells #[.slice (some ⟨fg, 0, none⟩) dd.f.length fc, .slice (some ⟨mg, 0, none⟩) dd.m.length mc] 43 (0, 0)), (q7, Obj.cells #[.slice (some ⟨rg, 0, none⟩) dd.r.length rc] 41 (0, 0))]) ((W4.setCell ⟨g2, j * 2, none⟩ (.int .i64 (sa + sc))).setCell ⟨g2, j * 2 + 1, none⟩ (.int .i64 (sb + sd)))) := Lib.hid (Mem.setS (Q1 := []) HKe.out j (sa + sc) (sb + sd))
             have hC3 := HCF.out _ _ HKf.out
             refine hK _ _ hC3 ?_
             clear hK z0 z1 y0 y1 HKe hC2 hC3
             generalize (W4.setCell ⟨g2, j * 2, none⟩ (.int .i64 (sa + sc))).setCell ⟨g2, j * 2 + 1, none⟩ (.int .i64 (sb + sd)) = W5 at HKf ⊢
             simp only [Act.put, List.setIfInBounds_toArray, List.set_cons_succ, List.set_cons_zero]
             refine Lim.stepD (by kernel_rfl) ?_
             clear HCF
             clear ex ey
             have b3 := (box_cell HKf.out (cs := #[.slice (some ⟨g2, 0, none⟩) dd.f.length vc2, .slice va9 E.length vc9]) (t := 43) (p := pp) (j := 0) (by simp) rfl).1
             go_wp2_with fail
             have hdel := delS_any (base := S) (n := dd.f.length) (cap := vc2) (g := g2) (i := i) (L := G.set j (sa + sc, sb + sd)) (w := W5) (by have := HFL.out; omega) HIL.out.1 (by rw [List.length_set, HMF.out.len]) (HKf.out.q (rwS (.slice (some ⟨g2, 0, none⟩) dd.f.length vc2) dd.f.length (G.set j (sa + sc, sb + sd))) (by simp))
             rw [show ((i + 1 : Nat) : Int) = (i : Int) + 1 by omega] at hdel
             refine hdel.mono ?_
             rintro e W6 ⟨rfl, ho, hg⟩
             rw [← HWF.out] at ho
             have HKg := Lib.hid (Mem.putQ (Q1 := []) HKf.out hg (r' := rwS (.slice (some ⟨g2, 0, none⟩) (dd.f.length - 1) vc2) (dd.f.length - 1) (woF G i)) ho (.inl rfl))
             clear hdel ho hg HKf b3
             obtain ⟨z0, z1⟩ := box_cell HKg.out (cs := #[.slice (some ⟨g2, 0, none⟩) dd.f.length vc2, .slice va9 E.length vc9]) (t := 43) (p := pp) (j := 0) (by simp) rfl
             go_upto_region 37 with (fail)
             have HKz := Lib.hid (Mem.putX (X1 := []) HKg.out 0 (.slice (some ⟨g2, 0, none⟩) (dd.f.length - 1) vc2))
             have HRS : Hid (RS (W6.setCell ⟨pp, 0, none⟩ (.slice (some ⟨g2, 0, none⟩) (dd.f.length - 1) vc2)).heap.size (W6.setCell ⟨pp, 0, none⟩ (.slice (some ⟨g2, 0, none⟩) (dd.f.length - 1) vc2)) (.slice (some ⟨g2, 0, none⟩) (dd.f.length - 1) vc2) (woF G i).length (spans (woF G i))) := Lib.hid (by
              have e : (woF G i).length = dd.f.length - 1 := by rw [woF_len (by rw [HMF.out.len]; have := HIL.out; omega), HMF.out.len]
              rw [e]; exact RS.of_owns (HKz.out.q (rwS (.slice (some ⟨g2, 0, none⟩) (dd.f.length - 1) vc2) (dd.f.length - 1) (woF G i)) (by simp)))
             clear z0 z1 de df ej hjc hjc2 hjf hif hj10 hcap2 HKg
             generalize W6.setCell ⟨pp, 0, none⟩ (.slice (some ⟨g2, 0, none⟩) (dd.f.length - 1) vc2) = Wz at HKz HRS ⊢
             have b0 := (box_cell HKz.out (cs := #[.slice (some ⟨rg, 0, none⟩) dd.r.length rc]) (t := 41) (p := q7) (j := 0) (by simp) rfl).1
             have b3 := (box_cell HKz.out (cs := #[.slice (some ⟨g2, 0, none⟩) (dd.f.length - 1) vc2, .slice va9 E.length vc9]) (t := 43) (p := pp) (j := 0) (by simp) rfl).1
             have b4 := (box_cell HKz.out (cs := #[.slice (some ⟨g2, 0, none⟩) (dd.f.length - 1) vc2, .slice va9 E.length vc9]) (t := 43) (p := pp) (j := 1) (by simp) rfl).1
             go_wp2_with fail
             refine (Readings_any (B := Wz.heap.size) (d := wo (withF dd G) i) (Nat.le_refl _) (HKz.out.rsS (v := .slice (some ⟨rg, 0, none⟩) dd.r.length rc) (n := dd.r.length) (l := dd.r) (.inl (by simp)) rfl) (fun a c h => by cases h; exact own_cap (HKz.out.r (rwS (.slice (some ⟨rg, 0, none⟩) dd.r.length rc) dd.r.length dd.r) (by simp))) HRS.out (show RS _ _ _ (dd.m.eraseIdx i).length (ints (dd.m.eraseIdx i)) from by rw [← HE.out.1]; exact HKz.out.rsI (v := .slice va9 E.length vc9) (n := E.length) (l := E) (.inr (by simp)) rfl)).mono ?_
             rintro e wy ⟨rfl, hb⟩
             have HKE := Lib.hid (HKz.out.grow hb)
             rw [read_ok (moved_wo_err (by omega) HP.out HMF.out HIP.out.1 HM2.out)]
             obtain ⟨m1, hm1⟩ : ∃ m1, m1 = total (wo (withF dd G) i) := ⟨_, rfl⟩
             have hm2 : 1 ≤ m1 := by rw [hm1]; exact HIP.out.2
             rw [← hm1]
             have dt : decide ((m1 : Int) < 1) = false := by rw [decide_eq_false_iff_not]; omega
             have dt2 : decide (m1 < 1) = false := by rw [decide_eq_false_iff_not]; omega
             clear hb HKz b0 b3 b4 hm1 hm2
             go_wp2
             go_roundw
             case rel => exact ⟨t + 1, by omega, by go_num, Lib.hid (HKE.out.less (fun _ h => h) (List.nil_sublist _) (.cons _ (List.Sublist.refl _)))⟩
             case measure => simp [intOf]; omega
         ·have hti : ¬ ((t : Int) < (WL.length : Int)) := by omega
          go_wp2_with fail
          refine (awake_any _).mono ?_
          rintro e wz ⟨rfl, hb⟩
          have HB := Lib.hid (HK.out.b.trans (hb.mono HK.out.b.size))
          clear hb
          go_wp2
          go_ret
          exact ⟨rfl, HB.out⟩
end Go.Proofs.Ytobmhamdkngehaa
