/-
  Parts of the proof, in the order in which they build: PoSure.
-/
import Derived.Deep.CutRange
import Derived.BigQuiet
import Derived.Test.YtobmhamdkngehaaA45
import Derived.Test.YtobmhamdkngehaaA44
import Derived.Test.YtobmhamdkngehaaA20
set_option linter.unusedVariables false
set_option linter.unusedSimpArgs false
namespace Go.Proofs.Ytobmhamdkngehaa
open Go.RowKit Go.Shelf
open Lim

set_option maxRecDepth 20000 in
set_option maxHeartbeats 8000000 in
theorem psure_any {B : Nat} {nv tv0 : Value} {ns ts : List Int} {a0 b0 : Int} {w : World} (hB : B ≤ w.heap.size) (hn : RS B w nv ns.length (u8s ns)) (hnu : ∀ x ∈ ns, 0 ≤ x ∧ x ≤ 255) (ht : RS B w tv0 ts.length (u8s ts)) (htu : ∀ x ∈ ts, 0 ≤ x ∧ x ≤ 255) :
    Calls Try.prog 11 #[nv, tv0, .int .i64 a0, .int .i64 b0] w fun e w' => e = .returned (.bool true) ∧ Below w.heap.size w w' := by
  have HA := Lib.hid (And.intro hB (And.intro hn (And.intro hnu (And.intro ht htu))))
  obtain ⟨na, nc, rfl, -⟩ := hn
  obtain ⟨ua, uc, rfl, -⟩ := ht
  clear hB hnu htu
  go_enter Try.func11, Try.ntmps11
  go_wp2_with fail
  refine (of_dk HA.out.1 HA.out.2.1 HA.out.2.2.1).mono ?_
  rintro e w1 ⟨rfl, hd0, hb1, hs1⟩
  have HD0 := Lib.hid (And.intro hd0 (And.intro hb1 hs1))
  clear hd0 hb1 hs1
  go_wp2_with fail
  refine (of_dk (B := B) (by have h1 := HA.out.1; have h2 := HD0.out.2.1.size; omega) (HA.out.2.2.2.1.below (HD0.out.2.1.mono HA.out.1)) HA.out.2.2.2.2).mono ?_
  rintro e w2 ⟨rfl, hd1, hb2, hs2⟩
  have HD1 := Lib.hid (And.intro hd1 (And.intro hb2 hs2))
  clear hd1 hb2 hs2
  go_wp2_with fail
  refine (pmade_any (M := 10) (d := w.heap.size) (c0 := 0) ((HD0.out.1.below HD1.out.2.1).deck (n := 0) (by omega)) (by omega) (by omega)).mono ?_
  rintro e w3 ⟨av, gv, tv, p, T, c', rfl, hM, -, -, hgr, o1, o2, o3⟩
  have HM := Lib.hid hM
  have HOK : Hid p.Ok := Lib.hid (hM.ok (by omega))
  have HLN := Lib.hid hM.lens
  have HK0 := Lib.hid (Mem.start2 HA.out.1 HA.out.2.2.2.1 HD0.out.2.1 HD0.out.2.2 HD1.out.1 HD1.out.2.1 HD1.out.2.2 (Int.le_refl _) hgr o1 o2 o3)
  obtain ⟨d1, hd1e⟩ : ∃ d1, d1 = w1.heap.size := ⟨_, rfl⟩
  obtain ⟨S, hSe⟩ : ∃ S, S = w2.heap.size := ⟨_, rfl⟩
  rw [← hd1e, ← hSe] at HK0
  obtain ⟨ha, hc, rfl⟩ : ∃ g cap, av = .slice (some ⟨g, 0, none⟩) p.ats.length cap := form_pos (r := rwI av p.ats.length p.ats) o1 (show 0 < p.ats.length by have := HLN.out; omega)
  obtain ⟨ga, gc, rfl⟩ : ∃ g cap, gv = .slice (some ⟨g, 0, none⟩) p.gr.length cap := form_pos (r := rwS gv p.gr.length p.gr) o2 (show 0 < p.gr.length by have := HLN.out; omega)
  obtain ⟨ta, tc, rfl⟩ : ∃ g cap, tv = .slice (some ⟨g, 0, none⟩) T.length cap := form_pos (r := rwI tv T.length T) o3 (show 0 < T.length by have := HLN.out; omega)
  simp only [← hd1e]
  clear hM hgr o1 o2 o3 hd1e hSe HD0 HD1 HA
  go_wp2_with fail
  have HK1 := Lib.hid (HK0.out.lay (.cells #[.slice (some ⟨ha, 0, none⟩) p.ats.length hc, .slice (some ⟨ga, 0, none⟩) p.gr.length gc, .int .i64 p.tall, .int .i64 p.lo, .int .i64 p.hi] 27))
  obtain ⟨q, hqe⟩ : ∃ q, q = w3.heap.size := ⟨_, rfl⟩
  simp only [← hqe] at HK1 ⊢
  generalize w3.alloc (.cells #[.slice (some ⟨ha, 0, none⟩) p.ats.length hc, .slice (some ⟨ga, 0, none⟩) p.gr.length gc, .int .i64 p.tall, .int .i64 p.lo, .int .i64 p.hi] 27) = w4 at HK1 ⊢
  clear HK0 hqe
  have hC : (fun W => W.cell? ⟨q, 0, none⟩ = some (.slice (some ⟨ha, 0, none⟩) p.ats.length hc) ∧ W.cell? ⟨q, 1, none⟩ = some (.slice (some ⟨ga, 0, none⟩) p.gr.length gc) ∧ W.cell? ⟨q, 2, none⟩ = some (.int .i64 p.tall) ∧ W.cell? ⟨q, 3, none⟩ = some (.int .i64 p.lo) ∧ W.cell? ⟨q, 4, none⟩ = some (.int .i64 p.hi)) w4.drew := HK1.out.drew.box5 (t := 27) (List.mem_singleton.2 rfl)
  have HK2 := Lib.hid HK1.out.drew
  clear HK1
  refine Lim.regC' (fun W => W.cell? ⟨q, 0, none⟩ = some (.slice (some ⟨ha, 0, none⟩) p.ats.length hc) ∧ W.cell? ⟨q, 1, none⟩ = some (.slice (some ⟨ga, 0, none⟩) p.gr.length gc) ∧ W.cell? ⟨q, 2, none⟩ = some (.int .i64 p.tall) ∧ W.cell? ⟨q, 3, none⟩ = some (.int .i64 p.lo) ∧ W.cell? ⟨q, 4, none⟩ = some (.int .i64 p.hi)) [] #[false, false, false, false, false, false, false, false, false, false, false, false] (by kernel_rfl) rfl ?_
  refine Lim.stepR 0 (fun _ => trivial) rfl (by kernel_rfl) (fun _ _ _ _ h => h) hC rfl ?_; apply Exists.intro; refine ⟨?_, ?_⟩
  · rintro w ⟨r0, r1, r2, r3, r4⟩; go_simp; try with_reducible rfl
  simp only [Act.put, List.setIfInBounds_toArray, List.set_cons_succ, List.set_cons_zero]
  refine Lim.stepR 1 (fun _ => trivial) rfl (by kernel_rfl) (fun _ _ _ _ h => h) hC rfl ?_; apply Exists.intro; refine ⟨?_, ?_⟩
  · rintro w ⟨r0, r1, r2, r3, r4⟩; go_simp; try with_reducible rfl
  simp only [Act.put, List.setIfInBounds_toArray, List.set_cons_succ, List.set_cons_zero]
  refine Lim.stepR 2 (fun _ => trivial) rfl (by kernel_rfl) (fun _ _ _ _ h => h) hC rfl ?_; apply Exists.intro; refine ⟨?_, ?_⟩
  · rintro w ⟨r0, r1, r2, r3, r4⟩; go_simp; try with_reducible rfl
  simp only [Act.put, List.setIfInBounds_toArray, List.set_cons_succ, List.set_cons_zero]
  refine Lim.stepR 3 (fun _ => trivial) rfl (by kernel_rfl) (fun _ _ _ _ h => h) hC rfl ?_; apply Exists.intro; refine ⟨?_, ?_⟩
  · rintro w ⟨r0, r1, r2, r3, r4⟩; go_simp; try with_reducible rfl
  simp only [Act.put, List.setIfInBounds_toArray, List.set_cons_succ, List.set_cons_zero]
  refine Lim.stepR 5 (fun _ => trivial) rfl (by kernel_rfl) (fun _ _ _ _ h => h) hC rfl ?_; apply Exists.intro; refine ⟨?_, ?_⟩
  · rintro w ⟨r0, r1, r2, r3, r4⟩; go_simp; try with_reducible rfl
  simp only [Act.put, List.setIfInBounds_toArray, List.set_cons_succ, List.set_cons_zero]
  refine Lim.stepR 6 (fun _ => trivial) rfl (by kernel_rfl) (fun _ _ _ _ h => h) hC rfl ?_; apply Exists.intro; refine ⟨?_, ?_⟩
  · rintro w ⟨r0, r1, r2, r3, r4⟩; go_simp; try with_reducible rfl
  simp only [Act.put, List.setIfInBounds_toArray, List.set_cons_succ, List.set_cons_zero]
  refine Lim.stepR 7 (fun _ => trivial) rfl (by kernel_rfl) (fun _ _ _ _ h => h) hC rfl ?_; apply Exists.intro; refine ⟨?_, ?_⟩
  · rintro w ⟨r0, r1, r2, r3, r4⟩; go_simp; try with_reducible rfl
  simp only [Act.put, List.setIfInBounds_toArray, List.set_cons_succ, List.set_cons_zero]
  refine Lim.stepR 8 (fun _ => trivial) rfl (by kernel_rfl) (fun _ _ _ _ h => h) hC rfl ?_; apply Exists.intro; refine ⟨?_, ?_⟩
  · rintro w ⟨r0, r1, r2, r3, r4⟩; go_simp; try with_reducible rfl
  simp only [Act.put, List.setIfInBounds_toArray, List.set_cons_succ, List.set_cons_zero]
  refine Lim.stepE 4 (fun _ => trivial) rfl (by kernel_rfl) rfl (fun K hK => ?_)   -- E call
  go_simp
  refine ⟨rfl, (callsIn_wide.2 (fold_nat (v := a0) (n := p.ats.length) _ (by have := HLN.out; omega))).mono ?_⟩
  rintro e w' ⟨x, rfl, hx, rfl⟩
  refine hK _ _ hC ?_
  clear hK
  simp only [Act.put, List.setIfInBounds_toArray, List.set_cons_succ, List.set_cons_zero]
  refine Lim.stepE 9 (fun _ => trivial) rfl (by kernel_rfl) rfl (fun K hK => ?_)   -- E call
  go_simp
  refine ⟨rfl, (callsIn_wide.2 (fold_nat (v := b0) (n := p.ats.length) _ (by have := HLN.out; omega))).mono ?_⟩
  rintro e w' ⟨y, rfl, hy, rfl⟩
  refine hK _ _ hC ?_
  clear hK
  simp only [Act.put, List.setIfInBounds_toArray, List.set_cons_succ, List.set_cons_zero]
  refine Lim.stepR 10 (fun _ => trivial) rfl (by kernel_rfl) (fun _ _ _ _ h => h) hC rfl ?_; apply Exists.intro; refine ⟨?_, ?_⟩
  · rintro w ⟨r0, r1, r2, r3, r4⟩; go_simp; try with_reducible rfl
  simp only [Act.put, List.setIfInBounds_toArray, List.set_cons_succ, List.set_cons_zero]
  refine Lim.stepR 11 (fun _ => trivial) rfl (by kernel_rfl) (fun _ _ _ _ h => h) hC rfl ?_; apply Exists.intro; refine ⟨?_, ?_⟩
  · rintro w ⟨r0, r1, r2, r3, r4⟩; go_simp; try with_reducible rfl
  simp only [Act.put, List.setIfInBounds_toArray, List.set_cons_succ, List.set_cons_zero]
  refine Lim.stepD (by kernel_rfl) ?_
  generalize w4.drew = w5 at HK2 ⊢
  clear hC
  have HXY : Hid (x < p.n ∧ y < p.n) := Lib.hid (by have := HLN.out; omega)
  clear hx hy
  obtain ⟨b0, b1, b2, b3, b4⟩ := HK2.out.box5 (q := q) (a := .slice (some ⟨ha, 0, none⟩) p.ats.length hc) (b := .slice (some ⟨ga, 0, none⟩) p.gr.length gc) (e := .int .i64 p.tall) (f := .int .i64 p.lo) (g := .int .i64 p.hi) (t := 27) (by simp)

  go_wp2_with fail
  refine (Sees_any (B := w5.heap.size) (Nat.le_refl _) (HK2.out.rsI (v := .slice (some ⟨ha, 0, none⟩) p.ats.length hc) (by simp) rfl) (HK2.out.rsS (v := .slice (some ⟨ga, 0, none⟩) p.gr.length gc) (by simp) rfl)).mono ?_
  rintro e w6 ⟨rfl, hb⟩
  have HK3 := Lib.hid (HK2.out.grow hb)
  clear hb HK2 b0 b1 b2 b3 b4
  by_cases hxy : x = y
  · subst hxy
    rw [sees_self HOK.out x]
    go_wp2_with fail
    refine (awake_any _).mono ?_
    rintro e w7 ⟨rfl, hb⟩
    have HB := Lib.hid (HK3.out.b.trans (hb.mono HK3.out.b.size))
    clear hb
    go_wp2
    go_ret
    exact ⟨rfl, HB.out⟩
  · rw [sees_ok HOK.out HXY.out.1 HXY.out.2 hxy]
    have HNE := Lib.hid hxy
    have hbe : ((x : Int) == (y : Int)) = false := by rw [beq_eq_false_iff_ne]; omega
    clear hxy
    obtain ⟨cn, hcn⟩ : ∃ cn, cn = p.sees true false x y := ⟨_, rfl⟩
    obtain ⟨sr, hsr⟩ : ∃ sr, sr = p.sure x y := ⟨_, rfl⟩
    rw [← hcn, ← hsr]
    have HCS : Hid (cn = p.sees true false x y ∧ sr = p.sure x y ∧ (sr = true → cn = true) ∧ (max x y ≤ min x y + 1 → sr = true)) := Lib.hid ⟨hcn, hsr, fun h => by rw [hcn]; exact sure_can HOK.out HXY.out.1 HXY.out.2 (hsr ▸ h), fun h => by rw [hsr]; exact side_sure p h⟩
    clear hcn hsr
    obtain ⟨b0, b1, b2, b3, b4⟩ := HK3.out.box5 (q := q) (a := .slice (some ⟨ha, 0, none⟩) p.ats.length hc) (b := .slice (some ⟨ga, 0, none⟩) p.gr.length gc) (e := .int .i64 p.tall) (f := .int .i64 p.lo) (g := .int .i64 p.hi) (t := 27) (by simp)
    go_wp2_with fail
    refine (Sees_any (B := w6.heap.size) (Nat.le_refl _) (HK3.out.rsI (v := .slice (some ⟨ha, 0, none⟩) p.ats.length hc) (by simp) rfl) (HK3.out.rsS (v := .slice (some ⟨ga, 0, none⟩) p.gr.length gc) (by simp) rfl)).mono ?_
    rintro e w7 ⟨rfl, hb⟩
    have HK4 := Lib.hid (HK3.out.grow hb)
    clear hb HK3 b0 b1 b2 b3 b4
    rw [sees_ok HOK.out HXY.out.2 HXY.out.1 (Ne.symm HNE.out), sees_comm p true false y x, show p.sure y x = p.sure x y from sees_comm p false true y x, ← HCS.out.1, ← HCS.out.2.1]
    go_upto_region 8 with (fail)
    go_cut [118] from 82 to 117 (fun s118 wx => s118 = .bool false ∧ wx = w7)
    case first =>
      as_aux_lemma =>
        have e1 : IntKind.i64.wrap ((x : Int) - (y : Int)) = (x : Int) - (y : Int) := IntWalk.i64_in _ (by have := HXY.out; have := HLN.out; omega)
        have e2 : IntKind.i64.wrap ((y : Int) - (x : Int)) = (y : Int) - (x : Int) := IntWalk.i64_in _ (by have := HXY.out; have := HLN.out; omega)
        obtain ⟨md, hmd⟩ : ∃ md, (max ((x : Int) - (y : Int)) ((y : Int) - (x : Int)) == 1) = md := ⟨_, rfl⟩
        cases md with
        | true =>
          obtain rfl : sr = true := HCS.out.2.2.2 (by rw [beq_iff_eq] at hmd; omega)
          obtain rfl : cn = true := HCS.out.2.2.1 rfl
          go_wp2
          go_meet
          case rel => exact ⟨rfl, rfl⟩
        | false =>
          cases sr with
          | true =>
            obtain rfl : cn = true := HCS.out.2.2.1 rfl
            go_wp2
            go_meet
            case rel => exact ⟨rfl, rfl⟩
          | false =>
            cases cn with
            | true =>
              go_wp2
              go_meet
              case rel => exact ⟨rfl, rfl⟩
            | false =>
              go_wp2
              go_meet
              case rel => exact ⟨rfl, rfl⟩
    case rest =>
      as_aux_lemma =>
        obtain ⟨rfl, rfl⟩ := hcut
        go_upto_region 10 with (fail)
        clear hbe
        obtain ⟨i0, hi, hz0, hz1, hz2⟩ := info_parts Try.infoInt
        have HIN := Lib.hid (And.intro hi (And.intro hz0 (And.intro hz1 hz2)))
        clear hi hz0 hz1 hz2
        have hC : (fun W => W.cell? ⟨q, 0, none⟩ = some (.slice (some ⟨ha, 0, none⟩) p.ats.length hc) ∧ W.cell? ⟨q, 1, none⟩ = some (.slice (some ⟨ga, 0, none⟩) p.gr.length gc) ∧ W.cell? ⟨q, 2, none⟩ = some (.int .i64 p.tall) ∧ W.cell? ⟨q, 3, none⟩ = some (.int .i64 p.lo) ∧ W.cell? ⟨q, 4, none⟩ = some (.int .i64 p.hi)) wc.drew := HK4.out.drew.box5 (t := 27) (List.mem_singleton.2 rfl)
        refine Lim.regC' (fun W => W.cell? ⟨q, 0, none⟩ = some (.slice (some ⟨ha, 0, none⟩) p.ats.length hc) ∧ W.cell? ⟨q, 1, none⟩ = some (.slice (some ⟨ga, 0, none⟩) p.gr.length gc) ∧ W.cell? ⟨q, 2, none⟩ = some (.int .i64 p.tall) ∧ W.cell? ⟨q, 3, none⟩ = some (.int .i64 p.lo) ∧ W.cell? ⟨q, 4, none⟩ = some (.int .i64 p.hi)) [] #[false, false, false, false, false, false, false, false, false, false] (by kernel_rfl) rfl ?_
        refine Lim.stepR 0 (fun _ => trivial) rfl (by kernel_rfl) (fun _ _ _ _ h => h) hC rfl ?_; apply Exists.intro; refine ⟨?_, ?_⟩
        · rintro w ⟨r0, r1, r2, r3, r4⟩; go_simp; try with_reducible rfl
        simp only [Act.put, List.setIfInBounds_toArray, List.set_cons_succ, List.set_cons_zero]
        refine Lim.stepR 1 (fun _ => trivial) rfl (by kernel_rfl) (fun _ _ _ _ h => h) hC rfl ?_; apply Exists.intro; refine ⟨?_, ?_⟩
        · rintro w ⟨r0, r1, r2, r3, r4⟩; go_simp; try with_reducible rfl
        simp only [Act.put, List.setIfInBounds_toArray, List.set_cons_succ, List.set_cons_zero]
        refine Lim.stepR 2 (fun _ => trivial) rfl (by kernel_rfl) (fun _ _ _ _ h => h) hC rfl ?_; apply Exists.intro; refine ⟨?_, ?_⟩
        · rintro w ⟨r0, r1, r2, r3, r4⟩; go_simp; try with_reducible rfl
        simp only [Act.put, List.setIfInBounds_toArray, List.set_cons_succ, List.set_cons_zero]
        refine Lim.stepR 4 (fun _ => trivial) rfl (by kernel_rfl) (fun _ _ _ _ h => h) hC rfl ?_; apply Exists.intro; refine ⟨?_, ?_⟩
        · rintro w ⟨r0, r1, r2, r3, r4⟩; go_simp; try with_reducible rfl
        simp only [Act.put, List.setIfInBounds_toArray, List.set_cons_succ, List.set_cons_zero]
        refine Lim.stepR 5 (fun _ => trivial) rfl (by kernel_rfl) (fun _ _ _ _ h => h) hC rfl ?_; apply Exists.intro; refine ⟨?_, ?_⟩
        · rintro w ⟨r0, r1, r2, r3, r4⟩; go_simp; try with_reducible rfl
        simp only [Act.put, List.setIfInBounds_toArray, List.set_cons_succ, List.set_cons_zero]
        refine Lim.stepR 6 (fun _ => trivial) rfl (by kernel_rfl) (fun _ _ _ _ h => h) hC rfl ?_; apply Exists.intro; refine ⟨?_, ?_⟩
        · rintro w ⟨r0, r1, r2, r3, r4⟩; go_simp; try with_reducible rfl
        simp only [Act.put, List.setIfInBounds_toArray, List.set_cons_succ, List.set_cons_zero]
        refine Lim.parC [3, 7, 8, 9] (fun done a W => ∃ x122 x126 x21 x22, a = { tmps := #[Value.slice na ns.length nc, Value.slice ua ts.length uc, Value.int IntKind.i64 a0, Value.int IntKind.i64 b0, undef, undef, undef, undef, Value.bool false, Value.pointer (some ⟨w.heap.size, 0, none⟩), Value.pointer (some ⟨d1, 0, none⟩), Value.pointer (some ⟨q, 0, none⟩), Value.slice (some ⟨ta, 0, none⟩) T.length tc, Value.int IntKind.i64 x, Value.int IntKind.i64 y, Value.bool cn, Value.bool sr, Value.int IntKind.i64 0, Value.bool cn, Value.bool sr, Value.int IntKind.i64 0, x21, x22, undef, undef, undef, undef, undef, undef, undef, undef, Value.slice na ns.length nc, Value.pointer (some ⟨w.heap.size, 0, none⟩), Value.slice ua ts.length uc, Value.pointer (some ⟨d1, 0, none⟩), Value.tuple #[Value.agg #[Value.slice (some ⟨ha, 0, none⟩) p.ats.length hc, Value.slice (some ⟨ga, 0, none⟩) p.gr.length gc, Value.int IntKind.i64 p.tall, Value.int IntKind.i64 p.lo, Value.int IntKind.i64 p.hi], Value.slice (some ⟨ta, 0, none⟩) T.length tc], Value.pointer (some ⟨w.heap.size, 0, none⟩), Value.tuple #[Value.agg #[Value.slice (some ⟨ha, 0, none⟩) p.ats.length hc, Value.slice (some ⟨ga, 0, none⟩) p.gr.length gc, Value.int IntKind.i64 p.tall, Value.int IntKind.i64 p.lo, Value.int IntKind.i64 p.hi], Value.slice (some ⟨ta, 0, none⟩) T.length tc], Value.agg #[Value.slice (some ⟨ha, 0, none⟩) p.ats.length hc, Value.slice (some ⟨ga, 0, none⟩) p.gr.length gc, Value.int IntKind.i64 p.tall, Value.int IntKind.i64 p.lo, Value.int IntKind.i64 p.hi], Value.slice (some ⟨ta, 0, none⟩) T.length tc, Value.int IntKind.i64 a0, Value.pointer (some ⟨q, 0, none⟩), Value.slice (some ⟨ha, 0, none⟩) p.ats.length hc, Value.int IntKind.i64 p.ats.length, Value.int IntKind.i64 x, Value.int IntKind.i64 b0, Value.pointer (some ⟨q, 0, none⟩), Value.slice (some ⟨ha, 0, none⟩) p.ats.length hc, Value.int IntKind.i64 p.ats.length, Value.int IntKind.i64 y, Value.tuple #[Value.bool cn, Value.bool sr, Value.int IntKind.i64 0], Value.agg #[Value.slice (some ⟨ha, 0, none⟩) p.ats.length hc, Value.slice (some ⟨ga, 0, none⟩) p.gr.length gc, Value.int IntKind.i64 p.tall, Value.int IntKind.i64 p.lo, Value.int IntKind.i64 p.hi], Value.int IntKind.i64 x, Value.int IntKind.i64 y, Value.tuple #[Value.bool cn, Value.bool sr, Value.int IntKind.i64 0], Value.bool cn, Value.bool sr, Value.int IntKind.i64 0, Value.int IntKind.i64 x, Value.int IntKind.i64 y, Value.bool false, undef, undef, undef, undef, undef, undef, undef, undef, undef, undef, undef, undef, undef, Value.tuple #[Value.bool cn, Value.bool sr, Value.int IntKind.i64 0], Value.agg #[Value.slice (some ⟨ha, 0, none⟩) p.ats.length hc, Value.slice (some ⟨ga, 0, none⟩) p.gr.length gc, Value.int IntKind.i64 p.tall, Value.int IntKind.i64 p.lo, Value.int IntKind.i64 p.hi], Value.int IntKind.i64 y, Value.int IntKind.i64 x, Value.tuple #[Value.bool cn, Value.bool sr, Value.int IntKind.i64 0], Value.bool cn, Value.bool sr, Value.int IntKind.i64 0, u82, u83, u84, u85, u86, u87, u88, u89, u90, u91, u92, u93, u94, u95, u96, u97, u98, u99, u100, u101, u102, u103, u104, u105, u106, u107, u108, u109, u110, u111, u112, u113, u114, u115, u116, u117, Value.bool false, Value.pointer (some ⟨q, 0, none⟩), Value.slice (some ⟨ha, 0, none⟩) p.ats.length hc, Value.int IntKind.i64 p.ats.length, x122, Value.pointer (some ⟨q, 0, none⟩), Value.slice (some ⟨ha, 0, none⟩) p.ats.length hc, Value.int IntKind.i64 p.ats.length, x126, undef, undef, undef, undef, undef, undef, undef, undef, undef, undef, undef, undef, undef, undef, undef, undef, undef, undef, undef, undef, undef, undef, undef, undef, undef, undef, undef, undef, undef, undef, undef, undef, undef, undef, undef, undef, undef, undef, undef, undef, undef, undef, undef, undef, undef, undef, undef, undef, undef, undef, undef, undef, undef, undef, undef, undef, undef, undef, undef, undef, undef, undef, undef, undef, undef, undef, undef, undef, undef, undef, undef, undef, undef, undef, undef, undef, undef, undef, undef, undef, undef, undef, undef, undef, undef, undef, undef, undef, undef, undef, undef, undef, undef, undef, undef, undef, undef, undef, undef, undef, undef, undef, undef, undef, undef, undef, undef, undef, undef, undef], defers := [] } ∧ Mem w S d1 0 [rwI (.slice (some ⟨ha, 0, none⟩) p.ats.length hc) p.ats.length p.ats, rwS (.slice (some ⟨ga, 0, none⟩) p.gr.length gc) p.gr.length p.gr, rwI (.slice (some ⟨ta, 0, none⟩) T.length tc) T.length T] (onR (done 3) (rwI x122 p.ats.length (zeros p.ats.length)) ++ (onR (done 7) (rwI x126 p.ats.length (zeros p.ats.length)) ++ [])) [(q, Obj.cells #[.slice (some ⟨ha, 0, none⟩) p.ats.length hc, .slice (some ⟨ga, 0, none⟩) p.gr.length gc, .int .i64 p.tall, .int .i64 p.lo, .int .i64 p.hi] 27 (0, 0))] W ∧ (done 8 = true → done 3 = true ∧ x21 = x122) ∧ (done 9 = true → done 7 = true ∧ x22 = x126)) (fun _ => trivial) (by kernel_rfl) rfl rfl ?hC ?step ?fin ⟨_, _, _, _, rfl, HK4.out.drew, fun h => (by cases h), fun h => (by cases h)⟩
        case hC =>
          rintro done a W ⟨x122, x126, x21, x22, rfl, H, e8, e9⟩
          exact H.box5 (t := 27) (by simp)
        case step =>
          intro i o hi ho done a W hd hdep hS K hK
          obtain ⟨x122, x126, x21, x22, rfl, H, e8, e9⟩ := hS
          simp only [List.mem_cons, List.not_mem_nil, or_false] at hi
          rcases hi with rfl | rfl | rfl | rfl
          · cases ho
            clear hdep
            rw [onR_no hd] at H
            obtain ⟨v', W', hrun, ho1, hb, -⟩ := make_zeros (W := W) HIN.out (n := p.ats.length) (by have := HLN.out; omega)
            refine make_upon rfl rfl rfl hrun (hK _ _ ?_)
            simp only [Act.put, List.setIfInBounds_toArray, List.set_cons_succ, List.set_cons_zero]
            exact ⟨_, _, _, _, rfl, Mem.insQ (Q1 := []) H hb ho1, fun h => absurd (e8 h).1 (by rw [hd]; decide), e9⟩
          · cases ho
            clear hdep
            rw [onR_no hd] at H
            obtain ⟨v', W', hrun, ho1, hb, -⟩ := make_zeros (W := W) HIN.out (n := p.ats.length) (by have := HLN.out; omega)
            refine make_upon rfl rfl rfl hrun (hK _ _ ?_)
            simp only [Act.put, List.setIfInBounds_toArray, List.set_cons_succ, List.set_cons_zero]
            exact ⟨_, _, _, _, rfl, Mem.insQ (Q2 := []) H hb ho1, e8, fun h => absurd (e9 h).1 (by rw [hd]; decide)⟩
          · cases ho
            have h3 := hdep 3 (by kernel_rfl) (by simp)
            clear hdep
            go_simp
            refine hK _ _ ?_
            exact ⟨_, _, _, _, rfl, H, fun _ => ⟨h3, rfl⟩, e9⟩
          · cases ho
            have h3 := hdep 7 (by kernel_rfl) (by simp)
            clear hdep
            go_simp
            refine hK _ _ ?_
            exact ⟨_, _, _, _, rfl, H, e8, fun _ => ⟨h3, rfl⟩⟩
        case fin =>
          rintro done a W hall ⟨x122, x126, x21, x22, rfl, H, e8, e9⟩
          replace e8 := e8 (hall 8 (by simp))
          replace e9 := e9 (hall 9 (by simp))
          obtain ⟨-, rfl⟩ := e8
          obtain ⟨-, rfl⟩ := e9
          rw [onR_yes (hall 3 (by simp)), onR_yes (hall 7 (by simp))] at H
          obtain ⟨g1, k1, rfl⟩ : ∃ g cap, x21 = .slice (some ⟨g, 0, none⟩) p.ats.length cap := form_pos (r := rwI x21 p.ats.length (zeros p.ats.length)) (H.own (.inr (by simp))) (show 0 < p.ats.length by have := HLN.out; omega)
          obtain ⟨g2, k2, rfl⟩ : ∃ g cap, x22 = .slice (some ⟨g, 0, none⟩) p.ats.length cap := form_pos (r := rwI x22 p.ats.length (zeros p.ats.length)) (H.own (.inr (by simp))) (show 0 < p.ats.length by have := HLN.out; omega)
          have HK5 : Hid (Mem w S d1 0 [rwI (.slice (some ⟨ha, 0, none⟩) p.ats.length hc) p.ats.length p.ats, rwS (.slice (some ⟨ga, 0, none⟩) p.gr.length gc) p.gr.length p.gr, rwI (.slice (some ⟨ta, 0, none⟩) T.length tc) T.length T] [rwI (.slice (some ⟨g1, 0, none⟩) p.ats.length k1) p.ats.length (zeros p.ats.length), rwI (.slice (some ⟨g2, 0, none⟩) p.ats.length k2) p.ats.length (zeros p.ats.length)] [(q, Obj.cells #[.slice (some ⟨ha, 0, none⟩) p.ats.length hc, .slice (some ⟨ga, 0, none⟩) p.gr.length gc, .int .i64 p.tall, .int .i64 p.lo, .int .i64 p.hi] 27 (0, 0))] W) := Lib.hid H
          clear H hall HK4 hC
          dsimp only

          obtain ⟨-, b1, -, -, -⟩ := HK5.out.box5 (q := q) (a := .slice (some ⟨ha, 0, none⟩) p.ats.length hc) (b := .slice (some ⟨ga, 0, none⟩) p.gr.length gc) (e := .int .i64 p.tall) (f := .int .i64 p.lo) (g := .int .i64 p.hi) (t := 27) (by simp)
          go_wp2_with fail
          clear b1
          go_loopw [130] (fun i W => ∃ (k : Nat) (A B : List Int), k ≤ p.gr.length ∧ i = .int .i64 k ∧ Hid (WorTo p x y k A B) ∧ Hid (Mem w S d1 0 [rwI (.slice (some ⟨ha, 0, none⟩) p.ats.length hc) p.ats.length p.ats, rwS (.slice (some ⟨ga, 0, none⟩) p.gr.length gc) p.gr.length p.gr, rwI (.slice (some ⟨ta, 0, none⟩) T.length tc) T.length T] [rwI (.slice (some ⟨g1, 0, none⟩) p.ats.length k1) p.ats.length A, rwI (.slice (some ⟨g2, 0, none⟩) p.ats.length k2) p.ats.length B] [(q, Obj.cells #[.slice (some ⟨ha, 0, none⟩) p.ats.length hc, .slice (some ⟨ga, 0, none⟩) p.gr.length gc, .int .i64 p.tall, .int .i64 p.lo, .int .i64 p.hi] 27 (0, 0))] W)) (fun i _ => p.gr.length - (intOf i).toNat)
          case atStart => exact ⟨0, zeros p.ats.length, zeros p.ats.length, Nat.zero_le _, rfl, Lib.hid ⟨zeros_len _, zeros_len _, fun z hz => by omega⟩, HK5⟩
          case round =>
            as_aux_lemma =>
              clear HK5
              obtain ⟨k, A, B, hk, rfl, HWO, HK⟩ := hrel
              by_cases hlt : k < p.gr.length
              · obtain ⟨q0, q1⟩ := HK.out.cellS (g := ga) (n := p.gr.length) (cap := gc) (l := p.gr) (by simp) hlt
                obtain ⟨⟨u, v⟩, huv⟩ : ∃ s, s = p.gr.getD k (0, 0) := ⟨_, rfl⟩
                rw [← huv] at q0 q1
                dsimp only at q0 q1
                have HUV : Hid (u = (p.g k).1 ∧ v = (p.g k).2) := Lib.hid (by unfold Pf.g; rw [← huv]; exact ⟨rfl, rfl⟩)
                have hi1 : (k : Int) < (p.gr.length : Int) := by omega
                have hi2 : (k : Int) < (p.ats.length : Int) := by have := HLN.out; omega
                have hk40 : k < 40 := by have := HLN.out; omega
                clear huv
                go_upto_region 14 with (fail)
                clear q0 q1
                have HKa := Lib.hid (HK.out.lay (.cells #[.int .i64 u, .int .i64 v] 25))
                obtain ⟨qs, hqe⟩ : ∃ q, q = wr.heap.size := ⟨_, rfl⟩
                simp only [← hqe] at HKa ⊢
                generalize wr.alloc (.cells #[.int .i64 u, .int .i64 v] 25) = wa at HKa ⊢
                clear HK hqe
                have HWL : Hid (A.length = p.ats.length ∧ B.length = p.ats.length) := Lib.hid ⟨HWO.out.la, HWO.out.lb⟩
                have hC : (fun W => W.cell? ⟨qs, 0, none⟩ = some (.int .i64 u) ∧ W.cell? ⟨qs, 1, none⟩ = some (.int .i64 v)) wa.drew := HKa.out.drew.box2 (t := 25) List.mem_cons_self
                have HKd := Lib.hid HKa.out.drew
                clear HKa
                generalize hW0 : wa.drew = wd at HKd hC
                refine Lim.regC' (fun W => W.cell? ⟨qs, 0, none⟩ = some (.int .i64 u) ∧ W.cell? ⟨qs, 1, none⟩ = some (.int .i64 v)) [] #[false, false, false, false, false, false, false, false, false, false, false, false] (by kernel_rfl) rfl ?_
                rw [hW0]; clear hW0
                refine Lim.stepR 0 (fun _ => trivial) rfl (by kernel_rfl) (fun _ _ _ _ h => h) hC rfl ?_; apply Exists.intro; refine ⟨?_, ?_⟩
                · rintro w ⟨r0, r1⟩; go_simp; try with_reducible rfl
                simp only [Act.put, List.setIfInBounds_toArray, List.set_cons_succ, List.set_cons_zero]
                refine Lim.stepR 1 (fun _ => trivial) rfl (by kernel_rfl) (fun _ _ _ _ h => h) hC rfl ?_; apply Exists.intro; refine ⟨?_, ?_⟩
                · rintro w ⟨r0, r1⟩; go_simp; try with_reducible rfl
                simp only [Act.put, List.setIfInBounds_toArray, List.set_cons_succ, List.set_cons_zero]
                refine Lim.stepR 2 (fun _ => trivial) rfl (by kernel_rfl) (fun _ _ _ _ h => h) hC rfl ?_; apply Exists.intro; refine ⟨?_, ?_⟩
                · rintro w ⟨r0, r1⟩; go_simp; try with_reducible rfl
                simp only [Act.put, List.setIfInBounds_toArray, List.set_cons_succ, List.set_cons_zero]
                refine Lim.stepR 3 (fun _ => trivial) rfl (by kernel_rfl) (fun _ _ _ _ h => h) hC rfl ?_; apply Exists.intro; refine ⟨?_, ?_⟩
                · rintro w ⟨r0, r1⟩; go_simp; try with_reducible rfl
                simp only [Act.put, List.setIfInBounds_toArray, List.set_cons_succ, List.set_cons_zero]
                refine Lim.stepR 4 (fun _ => trivial) rfl (by kernel_rfl) (fun _ _ _ _ h => h) hC rfl ?_; apply Exists.intro; refine ⟨?_, ?_⟩
                · rintro w ⟨r0, r1⟩; go_simp; try with_reducible rfl
                simp only [Act.put, List.setIfInBounds_toArray, List.set_cons_succ, List.set_cons_zero]
                refine Lim.stepR 5 (fun _ => trivial) rfl (by kernel_rfl) (fun _ _ _ _ h => h) hC rfl ?_; apply Exists.intro; refine ⟨?_, ?_⟩
                · rintro w ⟨r0, r1⟩; go_simp; try with_reducible rfl
                simp only [Act.put, List.setIfInBounds_toArray, List.set_cons_succ, List.set_cons_zero]
                refine Lim.stepR 6 (fun _ => trivial) rfl (by kernel_rfl) (fun _ _ _ _ h => h) hC rfl ?_; apply Exists.intro; refine ⟨?_, ?_⟩
                · rintro w ⟨r0, r1⟩; go_simp; try with_reducible rfl
                simp only [Act.put, List.setIfInBounds_toArray, List.set_cons_succ, List.set_cons_zero]
                refine Lim.stepR 7 (fun _ => trivial) rfl (by kernel_rfl) (fun _ _ _ _ h => h) hC rfl ?_; apply Exists.intro; refine ⟨?_, ?_⟩
                · rintro w ⟨r0, r1⟩; go_simp; try with_reducible rfl
                simp only [Act.put, List.setIfInBounds_toArray, List.set_cons_succ, List.set_cons_zero]
                refine Lim.stepR 8 (fun _ => trivial) rfl (by kernel_rfl) (fun _ _ _ _ h => h) hC rfl ?_; apply Exists.intro; refine ⟨?_, ?_⟩
                · rintro w ⟨r0, r1⟩; go_simp; try with_reducible rfl
                simp only [Act.put, List.setIfInBounds_toArray, List.set_cons_succ, List.set_cons_zero]
                refine Lim.stepE 9 (fun _ => trivial) rfl (by kernel_rfl) rfl (fun K hK => ?_)   -- E store
                have z0 : wd.cell? ⟨g1, k, none⟩ = _ := HKd.out.cellI (g := g1) (n := p.ats.length) (cap := k1) (l := A) (.inr (List.mem_cons_self)) (by have := HWL.out; first | omega | (simp only [List.length_set]; omega))
                have z1 : wd.frozen? ⟨g1, k, none⟩ = false := row_frz (HKd.out.q (rwI (.slice (some ⟨g1, 0, none⟩) p.ats.length k1) p.ats.length (A)) (List.mem_cons_self)) rfl k
                go_simp
                have HKe := Lib.hid (Mem.setI (l := A) (Q1 := []) HKd.out k v)
                have hC2 : (fun W => W.cell? ⟨qs, 0, none⟩ = some (.int .i64 u) ∧ W.cell? ⟨qs, 1, none⟩ = some (.int .i64 v)) (wd.setCell ⟨g1, k, none⟩ (.int .i64 v)) := HKe.out.box2 (t := 25) List.mem_cons_self
                refine hK _ _ hC2 ?_
                clear z0 z1 hK HKd
                generalize wd.setCell ⟨g1, k, none⟩ (.int .i64 v) = we at HKe hC2 ⊢
                simp only [Act.put, List.setIfInBounds_toArray, List.set_cons_succ, List.set_cons_zero]
                refine Lim.stepR 10 (fun _ => trivial) rfl (by kernel_rfl) (fun _ _ _ _ h => h) hC2 rfl ?_; apply Exists.intro; refine ⟨?_, ?_⟩
                · rintro w ⟨r0, r1⟩; go_simp; try with_reducible rfl
                simp only [Act.put, List.setIfInBounds_toArray, List.set_cons_succ, List.set_cons_zero]
                refine Lim.stepE 11 (fun _ => trivial) rfl (by kernel_rfl) rfl (fun K hK => ?_)   -- E store
                have z0 : we.cell? ⟨g2, k, none⟩ = _ := HKe.out.cellI (g := g2) (n := p.ats.length) (cap := k2) (l := B) (.inr (List.mem_cons_of_mem _ List.mem_cons_self)) (by have := HWL.out; first | omega | (simp only [List.length_set]; omega))
                have z1 : we.frozen? ⟨g2, k, none⟩ = false := row_frz (HKe.out.q (rwI (.slice (some ⟨g2, 0, none⟩) p.ats.length k2) p.ats.length (B)) (List.mem_cons_of_mem _ List.mem_cons_self)) rfl k
                go_simp
                have HKf := Lib.hid (Mem.setI (l := B) (Q1 := [_]) (Q2 := []) HKe.out k u)
                have hC3 : (fun W => W.cell? ⟨qs, 0, none⟩ = some (.int .i64 u) ∧ W.cell? ⟨qs, 1, none⟩ = some (.int .i64 v)) (we.setCell ⟨g2, k, none⟩ (.int .i64 u)) := HKf.out.box2 (t := 25) List.mem_cons_self
                refine hK _ _ hC3 ?_
                clear z0 z1 hK HKe
                generalize we.setCell ⟨g2, k, none⟩ (.int .i64 u) = wf at HKf hC3 ⊢
                simp only [Act.put, List.setIfInBounds_toArray, List.set_cons_succ, List.set_cons_zero]
                refine Lim.stepD (by kernel_rfl) ?_
                clear hC hC2 hC3
                have HDB : Hid (∀ b, b = decide (k = x ∨ k = y) → WorTo p x y (k + 1) (A.set k (cond b u v)) (B.set k (cond b v u))) := Lib.hid fun b hb => by
                  refine HWO.out.set (by have := HLN.out; omega) ?_ ?_
                  · rw [hb, HUV.out.1, HUV.out.2]; by_cases h : k = x ∨ k = y <;> simp [h]
                  · rw [hb, HUV.out.1, HUV.out.2]; by_cases h : k = x ∨ k = y <;> simp [h]
                go_upto_region 15 with (fail)
                go_cut [152] from 147 to 151 (fun s152 wx => ∃ b, s152 = .bool b ∧ b = decide (k = x ∨ k = y) ∧ wx = wf)
                case first =>
                  as_aux_lemma =>
                    by_cases hkx : k = x
                    · have d1 : ((k : Int) == (x : Int)) = true := by rw [beq_iff_eq]; omega
                      have hk2 : decide (k = x ∨ k = y) = true := by simp [hkx]
                      clear hkx
                      go_wp2
                      go_meet
                      case rel => exact ⟨true, rfl, hk2.symm, rfl⟩
                    · have d1 : ((k : Int) == (x : Int)) = false := by rw [beq_eq_false_iff_ne]; omega
                      by_cases hky : k = y
                      · have d2 : ((k : Int) == (y : Int)) = true := by rw [beq_iff_eq]; omega
                        have hk2 : decide (k = x ∨ k = y) = true := by simp [hky]
                        clear hkx hky
                        go_wp2
                        go_meet
                        case rel => exact ⟨true, rfl, hk2.symm, rfl⟩
                      · have d2 : ((k : Int) == (y : Int)) = false := by rw [beq_eq_false_iff_ne]; omega
                        have hk2 : decide (k = x ∨ k = y) = false := by simp [hkx, hky]
                        clear hkx hky
                        go_wp2
                        go_meet
                        case rel => exact ⟨false, rfl, hk2.symm, rfl⟩
                case rest =>
                  as_aux_lemma =>
                    obtain ⟨b, rfl, hb, rfl⟩ := hcut
                    have HWN := Lib.hid (HDB.out b hb)
                    clear hb HDB HWO
                    cases b with
                    | false =>
                      go_wp2
                      go_roundw
                      case rel => exact ⟨k + 1, _, _, by omega, by go_num, HWN, Lib.hid (HKf.out.less (fun _ h => h) (List.Sublist.refl _) (List.sublist_cons_self _ _))⟩
                      case measure => simp [intOf]; omega
                    | true =>
                      go_upto_region 16 with (fail)
                      have hC : (fun W => W.cell? ⟨qs, 0, none⟩ = some (.int .i64 u) ∧ W.cell? ⟨qs, 1, none⟩ = some (.int .i64 v)) wc.drew := HKf.out.drew.box2 (t := 25) List.mem_cons_self
                      have HKd := Lib.hid HKf.out.drew
                      clear HKf
                      generalize hW0 : wc.drew = wd at HKd hC
                      refine Lim.regC' (fun W => W.cell? ⟨qs, 0, none⟩ = some (.int .i64 u) ∧ W.cell? ⟨qs, 1, none⟩ = some (.int .i64 v)) [] #[false, false, false, false, false, false, false, false, false, false, false, false] (by kernel_rfl) rfl ?_
                      rw [hW0]; clear hW0
                      refine Lim.stepR 0 (fun _ => trivial) rfl (by kernel_rfl) (fun _ _ _ _ h => h) hC rfl ?_; apply Exists.intro; refine ⟨?_, ?_⟩
                      · rintro w ⟨r0, r1⟩; go_simp; try with_reducible rfl
                      simp only [Act.put, List.setIfInBounds_toArray, List.set_cons_succ, List.set_cons_zero]
                      refine Lim.stepR 1 (fun _ => trivial) rfl (by kernel_rfl) (fun _ _ _ _ h => h) hC rfl ?_; apply Exists.intro; refine ⟨?_, ?_⟩
                      · rintro w ⟨r0, r1⟩; go_simp; try with_reducible rfl
                      simp only [Act.put, List.setIfInBounds_toArray, List.set_cons_succ, List.set_cons_zero]
                      refine Lim.stepR 2 (fun _ => trivial) rfl (by kernel_rfl) (fun _ _ _ _ h => h) hC rfl ?_; apply Exists.intro; refine ⟨?_, ?_⟩
                      · rintro w ⟨r0, r1⟩; go_simp; try with_reducible rfl
                      simp only [Act.put, List.setIfInBounds_toArray, List.set_cons_succ, List.set_cons_zero]
                      refine Lim.stepR 3 (fun _ => trivial) rfl (by kernel_rfl) (fun _ _ _ _ h => h) hC rfl ?_; apply Exists.intro; refine ⟨?_, ?_⟩
                      · rintro w ⟨r0, r1⟩; go_simp; try with_reducible rfl
                      simp only [Act.put, List.setIfInBounds_toArray, List.set_cons_succ, List.set_cons_zero]
                      refine Lim.stepR 4 (fun _ => trivial) rfl (by kernel_rfl) (fun _ _ _ _ h => h) hC rfl ?_; apply Exists.intro; refine ⟨?_, ?_⟩
                      · rintro w ⟨r0, r1⟩; go_simp; try with_reducible rfl
                      simp only [Act.put, List.setIfInBounds_toArray, List.set_cons_succ, List.set_cons_zero]
                      refine Lim.stepR 5 (fun _ => trivial) rfl (by kernel_rfl) (fun _ _ _ _ h => h) hC rfl ?_; apply Exists.intro; refine ⟨?_, ?_⟩
                      · rintro w ⟨r0, r1⟩; go_simp; try with_reducible rfl
                      simp only [Act.put, List.setIfInBounds_toArray, List.set_cons_succ, List.set_cons_zero]
                      refine Lim.stepR 6 (fun _ => trivial) rfl (by kernel_rfl) (fun _ _ _ _ h => h) hC rfl ?_; apply Exists.intro; refine ⟨?_, ?_⟩
                      · rintro w ⟨r0, r1⟩; go_simp; try with_reducible rfl
                      simp only [Act.put, List.setIfInBounds_toArray, List.set_cons_succ, List.set_cons_zero]
                      refine Lim.stepR 7 (fun _ => trivial) rfl (by kernel_rfl) (fun _ _ _ _ h => h) hC rfl ?_; apply Exists.intro; refine ⟨?_, ?_⟩
                      · rintro w ⟨r0, r1⟩; go_simp; try with_reducible rfl
                      simp only [Act.put, List.setIfInBounds_toArray, List.set_cons_succ, List.set_cons_zero]
                      refine Lim.stepR 8 (fun _ => trivial) rfl (by kernel_rfl) (fun _ _ _ _ h => h) hC rfl ?_; apply Exists.intro; refine ⟨?_, ?_⟩
                      · rintro w ⟨r0, r1⟩; go_simp; try with_reducible rfl
                      simp only [Act.put, List.setIfInBounds_toArray, List.set_cons_succ, List.set_cons_zero]
                      refine Lim.stepE 9 (fun _ => trivial) rfl (by kernel_rfl) rfl (fun K hK => ?_)   -- E store
                      have z0 : wd.cell? ⟨g1, k, none⟩ = _ := HKd.out.cellI (g := g1) (n := p.ats.length) (cap := k1) (l := (A.set k v)) (.inr (List.mem_cons_self)) (by have := HWL.out; first | omega | (simp only [List.length_set]; omega))
                      have z1 : wd.frozen? ⟨g1, k, none⟩ = false := row_frz (HKd.out.q (rwI (.slice (some ⟨g1, 0, none⟩) p.ats.length k1) p.ats.length ((A.set k v))) (List.mem_cons_self)) rfl k
                      go_simp
                      have HKe := Lib.hid (Mem.setI (l := (A.set k v)) (Q1 := []) HKd.out k u)
                      have hC2 : (fun W => W.cell? ⟨qs, 0, none⟩ = some (.int .i64 u) ∧ W.cell? ⟨qs, 1, none⟩ = some (.int .i64 v)) (wd.setCell ⟨g1, k, none⟩ (.int .i64 u)) := HKe.out.box2 (t := 25) List.mem_cons_self
                      refine hK _ _ hC2 ?_
                      clear z0 z1 hK HKd
                      generalize wd.setCell ⟨g1, k, none⟩ (.int .i64 u) = we at HKe hC2 ⊢
                      simp only [Act.put, List.setIfInBounds_toArray, List.set_cons_succ, List.set_cons_zero]
                      refine Lim.stepR 10 (fun _ => trivial) rfl (by kernel_rfl) (fun _ _ _ _ h => h) hC2 rfl ?_; apply Exists.intro; refine ⟨?_, ?_⟩
                      · rintro w ⟨r0, r1⟩; go_simp; try with_reducible rfl
                      simp only [Act.put, List.setIfInBounds_toArray, List.set_cons_succ, List.set_cons_zero]
                      refine Lim.stepE 11 (fun _ => trivial) rfl (by kernel_rfl) rfl (fun K hK => ?_)   -- E store
                      have z0 : we.cell? ⟨g2, k, none⟩ = _ := HKe.out.cellI (g := g2) (n := p.ats.length) (cap := k2) (l := (B.set k u)) (.inr (List.mem_cons_of_mem _ List.mem_cons_self)) (by have := HWL.out; first | omega | (simp only [List.length_set]; omega))
                      have z1 : we.frozen? ⟨g2, k, none⟩ = false := row_frz (HKe.out.q (rwI (.slice (some ⟨g2, 0, none⟩) p.ats.length k2) p.ats.length ((B.set k u))) (List.mem_cons_of_mem _ List.mem_cons_self)) rfl k
                      go_simp
                      have HKh := Lib.hid (Mem.setI (l := (B.set k u)) (Q1 := [_]) (Q2 := []) HKe.out k v)
                      have hC3 : (fun W => W.cell? ⟨qs, 0, none⟩ = some (.int .i64 u) ∧ W.cell? ⟨qs, 1, none⟩ = some (.int .i64 v)) (we.setCell ⟨g2, k, none⟩ (.int .i64 v)) := HKh.out.box2 (t := 25) List.mem_cons_self
                      refine hK _ _ hC3 ?_
                      clear z0 z1 hK HKe
                      generalize we.setCell ⟨g2, k, none⟩ (.int .i64 v) = wh at HKh hC3 ⊢
                      simp only [Act.put, List.setIfInBounds_toArray, List.set_cons_succ, List.set_cons_zero]
                      refine Lim.stepD (by kernel_rfl) ?_
                      clear hC hC2 hC3
                      have HKi : Hid (Mem w S d1 0 [rwI (.slice (some ⟨ha, 0, none⟩) p.ats.length hc) p.ats.length p.ats, rwS (.slice (some ⟨ga, 0, none⟩) p.gr.length gc) p.gr.length p.gr, rwI (.slice (some ⟨ta, 0, none⟩) T.length tc) T.length T] [rwI (.slice (some ⟨g1, 0, none⟩) p.ats.length k1) p.ats.length (A.set k u), rwI (.slice (some ⟨g2, 0, none⟩) p.ats.length k2) p.ats.length (B.set k v)] ((qs, Obj.cells #[.int .i64 u, .int .i64 v] 25 (0, 0)) :: [(q, Obj.cells #[.slice (some ⟨ha, 0, none⟩) p.ats.length hc, .slice (some ⟨ga, 0, none⟩) p.gr.length gc, .int .i64 p.tall, .int .i64 p.lo, .int .i64 p.hi] 27 (0, 0))]) wh) := Lib.hid (by have h := HKh.out; rw [List.set_set, List.set_set] at h; exact h)
                      clear HKh
                      go_wp2
                      go_roundw
                      case rel => exact ⟨k + 1, _, _, by omega, by go_num, HWN, Lib.hid (HKi.out.less (fun _ h => h) (List.Sublist.refl _) (List.sublist_cons_self _ _))⟩
                      case measure => simp [intOf]; omega
              · have HWN : Hid (WorTo p x y p.n A B) := Lib.hid (by have h := HWO.out; rw [show k = p.n by have := HLN.out; omega] at h; exact h)
                have hk5 : ¬ ((k : Int) < (p.gr.length : Int)) := by omega
                clear hlt HWO
                obtain ⟨b0, b1, b2, b3, b4⟩ := HK.out.box5 (q := q) (a := .slice (some ⟨ha, 0, none⟩) p.ats.length hc) (b := .slice (some ⟨ga, 0, none⟩) p.gr.length gc) (e := .int .i64 p.tall) (f := .int .i64 p.lo) (g := .int .i64 p.hi) (t := 27) (by simp)
                go_wp2_with fail
                clear hk5
                refine (Real_any (B := wr.heap.size) (Nat.le_refl _) (HK.out.rsI (v := .slice (some ⟨ha, 0, none⟩) p.ats.length hc) (by simp) rfl) (HK.out.rsS (v := .slice (some ⟨ga, 0, none⟩) p.gr.length gc) (by simp) rfl) (HK.out.rsI (v := .slice (some ⟨g1, 0, none⟩) p.ats.length k1) (l := A) (.inr List.mem_cons_self) (by have := HWN.out.la; have := HLN.out; omega)) (by have := HWN.out.la; have := HLN.out; omega)).mono ?_
                rintro e w8 ⟨rfl, hb⟩
                have HKm := Lib.hid (HK.out.grow hb)
                rw [real_ok HOK.out (HWN.out.truA HOK.out) HXY.out.1 HXY.out.2 HNE.out, HWN.out.worst HXY.out.1 HXY.out.2, ← HCS.out.2.1]
                clear hb HK b0 b1 b2 b3 b4
                obtain ⟨b0, b1, b2, b3, b4⟩ := HKm.out.box5 (q := q) (a := .slice (some ⟨ha, 0, none⟩) p.ats.length hc) (b := .slice (some ⟨ga, 0, none⟩) p.gr.length gc) (e := .int .i64 p.tall) (f := .int .i64 p.lo) (g := .int .i64 p.hi) (t := 27) (by simp)
                go_wp2_with fail
                refine (Real_any (B := w8.heap.size) (Nat.le_refl _) (HKm.out.rsI (v := .slice (some ⟨ha, 0, none⟩) p.ats.length hc) (by simp) rfl) (HKm.out.rsS (v := .slice (some ⟨ga, 0, none⟩) p.gr.length gc) (by simp) rfl) (HKm.out.rsI (v := .slice (some ⟨g2, 0, none⟩) p.ats.length k2) (l := B) (.inr (List.mem_cons_of_mem _ List.mem_cons_self)) (by have := HWN.out.lb; have := HLN.out; omega)) (by have := HWN.out.lb; have := HLN.out; omega)).mono ?_
                rintro e w9 ⟨rfl, hb⟩
                have HKn : Hid (Mem w S d1 0 [rwI (.slice (some ⟨ha, 0, none⟩) p.ats.length hc) p.ats.length p.ats, rwS (.slice (some ⟨ga, 0, none⟩) p.gr.length gc) p.gr.length p.gr, rwI (.slice (some ⟨ta, 0, none⟩) T.length tc) T.length T] [] [(q, Obj.cells #[.slice (some ⟨ha, 0, none⟩) p.ats.length hc, .slice (some ⟨ga, 0, none⟩) p.gr.length gc, .int .i64 p.tall, .int .i64 p.lo, .int .i64 p.hi] 27 (0, 0))] w9) := Lib.hid ((HKm.out.grow hb).less (fun _ h => h) (List.nil_sublist _) (List.Sublist.refl _))
                rw [real_ok HOK.out (HWN.out.truB HOK.out) HXY.out.1 HXY.out.2 HNE.out, HWN.out.best HXY.out.1 HXY.out.2, ← HCS.out.1]
                clear hb HKm b0 b1 b2 b3 b4
                have hs1 : (sr != sr) = false := by simp
                have hc1 : (cn != cn) = false := by simp
                go_wp2_with fail
                clear hs1 hc1
                go_loopw [202] (fun i W => ∃ k c : Nat, k ≤ 5 ∧ i = .int .i64 k ∧ Hid (c ≤ 50 * k) ∧ Hid (Mem w S d1 c [rwI (.slice (some ⟨ha, 0, none⟩) p.ats.length hc) p.ats.length p.ats, rwS (.slice (some ⟨ga, 0, none⟩) p.gr.length gc) p.gr.length p.gr, rwI (.slice (some ⟨ta, 0, none⟩) T.length tc) T.length T] [] [(q, Obj.cells #[.slice (some ⟨ha, 0, none⟩) p.ats.length hc, .slice (some ⟨ga, 0, none⟩) p.gr.length gc, .int .i64 p.tall, .int .i64 p.lo, .int .i64 p.hi] 27 (0, 0))] W)) (fun i _ => 5 - (intOf i).toNat)
                case atStart => exact ⟨0, 0, by omega, rfl, Lib.hid (Nat.le_refl _), HKn⟩
                case round =>
                  as_aux_lemma =>
                    clear HKn
                    obtain ⟨k, c, hk, rfl, HC, HK⟩ := hrel
                    by_cases hlt : k < 5
                    · have hk5 : (k : Int) < 5 := by omega
                      obtain ⟨b0, b1, b2, b3, b4⟩ := HK.out.box5 (q := q) (a := .slice (some ⟨ha, 0, none⟩) p.ats.length hc) (b := .slice (some ⟨ga, 0, none⟩) p.gr.length gc) (e := .int .i64 p.tall) (f := .int .i64 p.lo) (g := .int .i64 p.hi) (t := 27) (by simp)
                      go_wp2_with fail
                      refine (drawn_any (S := S) HOK.out HK.out.dk (by have := HC.out; omega) ⟨HK.out.o.2.1, HK.out.o.2.2⟩ (HK.out.r (rwS (.slice (some ⟨ga, 0, none⟩) p.gr.length gc) p.gr.length p.gr) (by simp)) rfl).mono ?_
                      rintro e w10 ⟨tv2, T2, bd, c2, rfl, hT2, ho, hdk, hc2, hgr⟩
                      have HKa := Lib.hid (HK.out.drawR hgr hdk (r := rwI tv2 T2.length T2) ho)
                      have HT2 := Lib.hid (And.intro hT2 hc2)
                      obtain ⟨a2, c2', rfl⟩ : ∃ a cap, tv2 = .slice a T2.length cap := row_form (r := rwI tv2 T2.length T2) ho
                      clear hgr hdk ho hT2 hc2 HK b0 b1 b2 b3 b4
                      obtain ⟨b0, b1, b2, b3, b4⟩ := HKa.out.box5 (q := q) (a := .slice (some ⟨ha, 0, none⟩) p.ats.length hc) (b := .slice (some ⟨ga, 0, none⟩) p.gr.length gc) (e := .int .i64 p.tall) (f := .int .i64 p.lo) (g := .int .i64 p.hi) (t := 27) (by simp)
                      go_wp2_with fail
                      refine (Real_any (B := w10.heap.size) (Nat.le_refl _) (HKa.out.rsI (v := .slice (some ⟨ha, 0, none⟩) p.ats.length hc) (by simp) rfl) (HKa.out.rsS (v := .slice (some ⟨ga, 0, none⟩) p.gr.length gc) (by simp) rfl) (HKa.out.rsI (v := .slice a2 T2.length c2') (l := T2) (.inl List.mem_cons_self) rfl) (by have := HT2.out.1.len; have := HLN.out; omega)).mono ?_
                      rintro e w11 ⟨rfl, hb⟩
                      have HKe : Hid (Mem w S d1 c2 [rwI (.slice (some ⟨ha, 0, none⟩) p.ats.length hc) p.ats.length p.ats, rwS (.slice (some ⟨ga, 0, none⟩) p.gr.length gc) p.gr.length p.gr, rwI (.slice (some ⟨ta, 0, none⟩) T.length tc) T.length T] [] [(q, Obj.cells #[.slice (some ⟨ha, 0, none⟩) p.ats.length hc, .slice (some ⟨ga, 0, none⟩) p.gr.length gc, .int .i64 p.tall, .int .i64 p.lo, .int .i64 p.hi] 27 (0, 0))] w11) := Lib.hid ((HKa.out.grow hb).less (fun _ h => List.mem_cons_of_mem _ h) (List.Sublist.refl _) (List.Sublist.refl _))
                      rw [real_ok HOK.out HT2.out.1 HXY.out.1 HXY.out.2 HNE.out]
                      obtain ⟨z, hz⟩ : ∃ z, z = (p.own T2 bd).sure x y := ⟨_, rfl⟩
                      have HZ : Hid ((sr = true → z = true) ∧ (z = true → cn = true)) := Lib.hid (by rw [hz, HCS.out.1, HCS.out.2.1]; exact real_le HOK.out HT2.out.1 HXY.out.1 HXY.out.2)
                      rw [← hz]
                      clear hz hb HKa b0 b1 b2 b3 b4
                      go_upto_region 26 with (fail)
                      go_cut [234] from 219 to 233 (fun s234 wx => s234 = .bool false ∧ wx = w11)
                      case first =>
                        as_aux_lemma =>
                          cases z with
                          | true =>
                            obtain rfl : cn = true := HZ.out.2 rfl
                            go_wp2
                            go_meet
                            case rel => exact ⟨rfl, rfl⟩
                          | false =>
                            obtain rfl : sr = false := by
                              cases sr with
                              | false => rfl
                              | true => exact absurd (HZ.out.1 rfl) (by decide)
                            go_wp2
                            go_meet
                            case rel => exact ⟨rfl, rfl⟩
                      case rest =>
                        as_aux_lemma =>
                          obtain ⟨rfl, rfl⟩ := hcut
                          go_wp2
                          go_roundw
                          case rel => exact ⟨k + 1, c2, by omega, by go_num, Lib.hid (by have h1 := HT2.out.2; have h2 := HC.out; have h3 := HLN.out; omega), HKe⟩
                          case measure => simp [intOf]; omega
                    · have hke : ¬ (k : Int) < 5 := by omega
                      go_wp2_with fail
                      refine (awake_any _).mono ?_
                      rintro e wz ⟨rfl, hb⟩
                      have HB := Lib.hid (HK.out.b.trans (hb.mono HK.out.b.size))
                      clear hb
                      go_wp2
                      go_ret
                      exact ⟨rfl, HB.out⟩
end Go.Proofs.Ytobmhamdkngehaa
