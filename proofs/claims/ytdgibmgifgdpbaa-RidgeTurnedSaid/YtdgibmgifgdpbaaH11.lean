/-
  Parts of the proof, in the order in which they build: Made.
-/
import Derived.Deep.CutRange
import Derived.BigQuiet
import Derived.Test.YtdgibmgifgdpbaaH10
set_option linter.unusedVariables false
set_option linter.unusedSimpArgs false
namespace Go.Proofs.Ytdgibmgifgdpbaa
open Go.RowKit Go.Shelf
open Lim

set_option maxRecDepth 20000 in
set_option maxHeartbeats 8000000 in
theorem made_any {d c0 : Nat} {C R : Int} {w : World} (hd : Deck w d c0) (hc0 : c0 ≤ 100000) (hC3 : 3 ≤ C ∧ C ≤ 10) (hR2 : 2 ≤ R ∧ R ≤ 10) :
    Calls Try.prog 26 #[.pointer (some ⟨d, 0, none⟩), .int .i64 C, .int .i64 R] w fun e w' => MadeAns C R d c0 w e w' := by
  obtain ⟨i0, hi, hz0, hz1, hz2⟩ := info_parts infoSpan
  have HSP := Lib.hid (And.intro hi (And.intro hz0 (And.intro hz1 hz2)))
  clear hi hz0 hz1 hz2
  obtain ⟨i1, hi, hz0, hz1, hz2⟩ := info_parts Try.infoInt
  have HIN := Lib.hid (And.intro hi (And.intro hz0 (And.intro hz1 hz2)))
  clear hi hz0 hz1 hz2
  have hdl : d < w.heap.size := by obtain ⟨cv, l, k, s, h, -⟩ := hd; exact World.block_lt_of_cell? _ _ h.c.1
  have hb0 : Below w.heap.size w (w.alloc (.cells #[.int .i64 0, .slice none 0 0, .slice none 0 0] 25)) := (Below.refl _ w).alloc (Nat.le_refl _) _
  have hz0 := heap_alloc_new w (.cells #[.int .i64 0, .slice none 0 0, .slice none 0 0] 25)
  have HW0 := Lib.hid (And.intro (hd.below hb0) (And.intro (grown_on (grown_refl w (some d)) hb0) (And.intro hz0 hdl)))
  have hs0 : (w.alloc (.cells #[.int .i64 0, .slice none 0 0, .slice none 0 0] 25)).heap.size = w.heap.size + 1 := by simp
  have HS0 := Lib.hid hs0
  clear hb0 hz0 hdl hd hs0
  go_enter Try.func26, Try.ntmps26
  go_wp2_with fail
  refine (deck_between HW0.out.1 (by omega) (by omega) (by omega) (by omega)).mono ?_
  rintro e w1 ⟨wd, rfl, hwd, hd1⟩
  have hs1 : w1.heap.size = w.heap.size + 1 := hd1.2.2.trans HS0.out
  have hb2 : Below w1.heap.size w1 (w1.alloc (.cells #[.int .i64 wd, .slice none 0 0, .slice none 0 0] 25)) := (Below.refl _ w1).alloc (Nat.le_refl _) _
  have hbx := heap_alloc_new w1 (.cells #[.int .i64 wd, .slice none 0 0, .slice none 0 0] 25)
  rw [hs1] at hbx
  have HM2 : Hid (MaS w d wd (c0 + 1) (.slice none 0 0) (.slice none 0 0) (.slice none 0 0) 0 [] [] [] (nilRow 54 2) (w1.alloc (.cells #[.int .i64 wd, .slice none 0 0, .slice none 0 0] 25)).drew) := Lib.hid (by
    have hzl := (Array.getElem?_eq_some_iff.1 HW0.out.2.2.1).1
    have hl := HW0.out.2.2.2
    have hz1 := (hd1.2.1.block _ hzl (fun e => by cases e; omega)).trans HW0.out.2.2.1
    refine ⟨grown_drew (grown_on (grown_trans HW0.out.2.1 hd1.2.1) hb2), (hd1.1.below hb2).below (Below.refl _ _).drew, heap_grow hz1 hb2.drew, hbx, ⟨fun i hi => ?_, fun i j hi hj hij k hk => ?_⟩, hl⟩
    · match i with
      | 0 => exact nilRow_owned _ _ _ _
      | 1 => exact nilRow_owned _ _ _ _
      | 2 => exact nilRow_owned _ _ _ _
      | 3 => exact nilRow_owned _ _ _ _
      | 4 => exact nilRow_owned _ _ _ _
      | 5 => exact nilRow_owned _ _ _ _
      | 6 => exact nilRow_owned _ _ _ _
      | i + 7 => omega
    · match i with
      | 0 => cases hk
      | 1 => cases hk
      | 2 => cases hk
      | 3 => cases hk
      | 4 => cases hk
      | 5 => cases hk
      | 6 => cases hk
      | i + 7 => omega)
  have HWD := Lib.hid hwd
  have hC : (fun W => W.cell? ⟨w.heap.size + 1, 0, none⟩ = some (.int .i64 wd)) (w1.alloc (.cells #[.int .i64 wd, .slice none 0 0, .slice none 0 0] 25)).drew := (cell_of_heap HM2.out.bx).1.1
  clear hd1 hb2 hbx HW0 HS0 hwd
  go_wp2_with fail
  clear hs1
  refine Lim.regC' (fun W => W.cell? ⟨w.heap.size + 1, 0, none⟩ = some (.int .i64 wd)) [] #[false, false, false, false, false, false, false] (by kernel_rfl) rfl ?_
  refine Lim.stepR 0 (fun _ => trivial) rfl (by kernel_rfl) (fun _ _ _ _ h => h) hC rfl ?_; apply Exists.intro; refine ⟨?_, ?_⟩
  · rintro w r1; go_simp; try with_reducible rfl
  simp only [Act.put, List.setIfInBounds_toArray, List.set_cons_succ, List.set_cons_zero]
  refine Lim.stepR 1 (fun _ => trivial) rfl (by kernel_rfl) (fun _ _ _ _ h => h) hC rfl ?_; apply Exists.intro; refine ⟨?_, ?_⟩
  · rintro w r1; go_simp; try with_reducible rfl
  simp only [Act.put, List.setIfInBounds_toArray, List.set_cons_succ, List.set_cons_zero]
  refine Lim.stepR 2 (fun _ => trivial) rfl (by kernel_rfl) (fun _ _ _ _ h => h) hC rfl ?_; apply Exists.intro; refine ⟨?_, ?_⟩
  · rintro w r1; go_simp; try with_reducible rfl
  simp only [Act.put, List.setIfInBounds_toArray, List.set_cons_succ, List.set_cons_zero]
  refine Lim.stepR 3 (fun _ => trivial) rfl (by kernel_rfl) (fun _ _ _ _ h => h) hC rfl ?_; apply Exists.intro; refine ⟨?_, ?_⟩
  · rintro w r1; go_simp; try with_reducible rfl
  simp only [Act.put, List.setIfInBounds_toArray, List.set_cons_succ, List.set_cons_zero]
  refine Lim.stepE 4 (fun _ => trivial) rfl (by kernel_rfl) rfl (fun K hK => ?_)   -- E call
  go_simp
  refine ⟨rfl, (callsIn_wide.2 (deck_between (HM2.out.dk) (by omega) (by omega) (by omega) (by omega))).mono ?_⟩
  rintro e w3 ⟨rows, rfl, hrows, hd⟩
  have HM3 := Lib.hid (HM2.out.dealt hd)
  have hC3 : (fun W => W.cell? ⟨w.heap.size + 1, 0, none⟩ = some (.int .i64 wd)) w3 := (cell_of_heap HM3.out.bx).1.1
  have HROWS := Lib.hid hrows
  clear hd hrows HM2
  have hwdr := HWD.out
  have hrr := HROWS.out
  obtain ⟨N, hN⟩ : ∃ N : Nat, wd * rows = N := ⟨(wd * rows).toNat, by have := Int.mul_nonneg (show (0 : Int) ≤ wd by omega) (show (0 : Int) ≤ rows by omega); omega⟩
  have hNr : 6 ≤ N ∧ N ≤ 100 := by
    have h1 : 3 * 2 ≤ wd * rows := Int.mul_le_mul hwdr.1 hrr.1 (by omega) (by omega)
    have h2 : wd * rows ≤ 10 * 10 := Int.mul_le_mul (by omega) (by omega) (by omega) (by omega)
    omega
  have e1 : IntKind.i64.wrap (wd * rows) = (N : Int) := by rw [hN]; exact IntWalk.i64_in _ (by omega)
  have HN := Lib.hid (And.intro hN hNr)
  clear hwdr hrr hN
  refine hK _ _ hC3 ?_
  simp only [Act.put, List.setIfInBounds_toArray, List.set_cons_succ, List.set_cons_zero]
  refine Lim.stepR 5 (fun _ => trivial) rfl (by kernel_rfl) (fun _ _ _ _ h => h) hC3 rfl ?_; apply Exists.intro; refine ⟨?_, ?_⟩
  · rintro w r1; go_simp; try with_reducible rfl
  simp only [Act.put, List.setIfInBounds_toArray, List.set_cons_succ, List.set_cons_zero]
  refine Lim.stepR 6 (fun _ => trivial) rfl (by kernel_rfl) (fun _ _ _ _ h => h) hC3 rfl ?_; apply Exists.intro; refine ⟨?_, ?_⟩
  · rintro w r1; go_simp; try with_reducible rfl
  simp only [Act.put, List.setIfInBounds_toArray, List.set_cons_succ, List.set_cons_zero]
  refine Lim.stepD (by kernel_rfl) ?_
  clear hC hC3
  go_wp2_with fail
  clear e1
  go_loopw [10, 28] (fun v i W => ∃ (k c : Nat) (hv sv : Value) (hs : List (Int × Int)) (ss T : List Int), k ≤ N ∧ i = .int .i64 k ∧ Hid (c ≤ c0 + 2 + 6 * k) ∧ Hid (Cells3 k hs ss T) ∧ Hid (MaS w d wd c hv sv v k hs ss T (nilRow 54 2) W)) (fun _ i _ => N - (intOf i).toNat)
  case atStart => exact ⟨0, _, _, _, [], [], [], Nat.zero_le _, rfl, Lib.hid (Nat.le_refl _), Lib.hid ⟨rfl, rfl, rfl, fun c hc => by omega, fun c hc => by omega⟩, HM3⟩
  case round =>
    clear HM3
    obtain ⟨k, c, hv, sv, hs, ss, T, hk, rfl, HCC, HCL, HM⟩ := hrel
    by_cases hlt : k < N
    · have HCB : Hid (c + 10 ≤ 200000) := Lib.hid (by have h1 := HCC.out; have h2 := HN.out.2; omega)
      go_wp2_with fail
      refine (deck_draw (n := 12) HM.out.dk (by have := HCB.out; omega)).mono ?_
      rintro e w4 ⟨h, rfl, hh, hd⟩
      have HM4 := Lib.hid (HM.out.dealt hd)
      have HH : Hid (0 ≤ h ∧ h ≤ 11) := Lib.hid (by have := hh.2.2 (by omega); omega)
      clear hh hd HM
      go_wp2_with fail
      refine (span_any h h w4).mono ?_
      rintro e w5 ⟨rfl, hb5⟩
      have HM5 := Lib.hid (HM4.out.below hb5)
      clear hb5 HM4
      have HM6 := Lib.hid (HM5.out.span h h)
      have hps : w5.heap.size < (w5.alloc (.cells #[.int .i64 h, .int .i64 h] 54)).heap.size := by simp
      clear HM5
      go_wp2_with fail
      obtain ⟨ps, hpse⟩ : ∃ ps, ps = w5.heap.size := ⟨_, rfl⟩
      rw [← hpse] at HM6 ⊢
      clear hpse hps
      generalize (w5.alloc (.cells #[.int .i64 h, .int .i64 h] 54)) = w6 at HM6 ⊢
      refine (deck_coin (n := 2) HM6.out.dk (by have := HCB.out; omega)).mono ?_
      rintro e w7 ⟨b1, rfl, hd⟩
      have HM7 := Lib.hid (HM6.out.dealt hd)
      clear hd HM6
      go_upto_if 36 with (fail)
      go_cut [11] from 29 to 67 (fun s11 wc => s11 = .int .i64 h ∧ ∃ (x y : Int) (c' : Nat), Hid (c' ≤ c + 4 ∧ 0 ≤ x ∧ x ≤ h ∧ h ≤ y ∧ y ≤ 14) ∧ Hid (MaS w d wd c' hv sv u10 k hs ss T (spanRow ps x y) wc))
      case first =>
        cases b1 with
        | false =>
          go_wp2
          go_meet
          case rel => exact ⟨rfl, h, h, _, Lib.hid ⟨by have := HH.out; omega, by have := HH.out; omega, Int.le_refl _, Int.le_refl _, by have := HH.out; omega⟩, HM7⟩
        | true =>
          go_wp2_with fail
          refine (deck_draw (n := 4) HM7.out.dk (by have := HCB.out; omega)).mono ?_
          rintro e w8 ⟨r1, rfl, hr1, hd⟩
          have HM8 := Lib.hid (HM7.out.dealt hd)
          have hr1' : 0 ≤ r1 ∧ r1 ≤ 3 := by have := hr1.2.2 (by omega); omega
          have hh := HH.out
          have e1 : IntKind.i64.wrap (h - r1) = h - r1 := IntWalk.i64_in _ (by omega)
          have HR1 := Lib.hid hr1'
          clear hd HM7 hr1 hr1' hh
          go_wp2_with fail
          refine (deck_draw (n := 4) HM8.out.dk (by have := HCB.out; omega)).mono ?_
          rintro e w9 ⟨r2, rfl, hr2, hd⟩
          have HM9 := Lib.hid (HM8.out.dealt hd)
          have hr2' : 0 ≤ r2 ∧ r2 ≤ 3 := by have := hr2.2.2 (by omega); omega
          have hh := HH.out
          have e2 : IntKind.i64.wrap (h + r2) = h + r2 := IntWalk.i64_in _ (by omega)
          have HR2 := Lib.hid hr2'
          clear hd HM8 hr2 hr2' hh
          go_wp2_with fail
          refine (span_any _ _ w9).mono ?_
          rintro e w10 ⟨rfl, hb⟩
          have HM10 := Lib.hid (HM9.out.below hb)
          obtain ⟨⟨k0, k1⟩, f0, f1⟩ := two_cells (span_heap (HM10.out.sep.own 6 (by omega))).2
          have HM11 := Lib.hid (HM10.out.respan (max 0 (h - r1)) (h + r2))
          clear hb HM9 HM10
          go_wp2
          go_meet
          case rel => exact ⟨rfl, _, _, _, Lib.hid ⟨by omega, by omega, by have := HR1.out; have := HH.out; omega, by have := HR2.out; omega, by have := HR2.out; have := HH.out; omega⟩, HM11⟩
      case rest =>
        obtain ⟨rfl, x, y, c1, HX, HM8⟩ := hcut
        clear HM7
        go_wp2_with fail
        have HCB1 : Hid (c1 + 4 ≤ 250000) := Lib.hid (by have h1 := HX.out.1; have h2 := HCB.out; omega)
        refine (deck_coin (n := 8) HM8.out.dk (by have := HCB1.out; omega)).mono ?_
        rintro e w11 ⟨b2, rfl, hd⟩
        have HM9 := Lib.hid (HM8.out.dealt hd)
        clear hd HM8
        go_upto_if 48 with (fail)
        go_cut [13] from 29 to 67 (fun s13 wc2 => ∃ (z : Int) (c2 : Nat), s13 = .int .i64 z ∧ Hid (0 ≤ z ∧ z ≤ 2 ∧ c2 ≤ c1 + 2) ∧ Hid (MaS w d wd c2 hv sv u10 k hs ss T (spanRow ps x y) wc2))
        case first =>
          cases b2 with
          | true =>
            go_wp2
            go_meet
            case rel => exact ⟨1, _, rfl, Lib.hid (by omega), HM9⟩
          | false =>
            go_wp2_with fail
            refine (deck_coin (n := 8) HM9.out.dk (by have := HCB1.out; omega)).mono ?_
            rintro e w12 ⟨b3, rfl, hd⟩
            have HM10 := Lib.hid (HM9.out.dealt hd)
            clear hd HM9
            cases b3 with
            | true =>
              go_wp2
              go_meet
              case rel => exact ⟨2, _, rfl, Lib.hid (by omega), HM10⟩
            | false =>
              go_wp2
              go_meet
              case rel => exact ⟨0, _, rfl, Lib.hid (by omega), HM10⟩
        case rest =>
          obtain ⟨z, c2, rfl, HZ, HM10⟩ := hcut
          clear HM9
          go_wp2_with fail
          have HM11 := Lib.hid (HM10.out.below (Below.refl _ wc).drew)
          have hC : (fun W => W.cell? ⟨w.heap.size + 1, 1, none⟩ = some hv ∧ W.cell? ⟨w.heap.size + 1, 2, none⟩ = some sv ∧ W.cell? ⟨ps, 0, none⟩ = some (.int .i64 x) ∧ W.cell? ⟨ps, 1, none⟩ = some (.int .i64 y)) wc.drew := by
            have h1 := (cell_of_heap HM11.out.bx).1
            have h2 := two_cells (span_heap (HM11.out.sep.own 6 (by omega))).2
            exact ⟨h1.2.1, h1.2.2, h2.1.1, h2.1.2⟩
          clear HM10
          refine Lim.regC' (fun W => W.cell? ⟨w.heap.size + 1, 1, none⟩ = some hv ∧ W.cell? ⟨w.heap.size + 1, 2, none⟩ = some sv ∧ W.cell? ⟨ps, 0, none⟩ = some (.int .i64 x) ∧ W.cell? ⟨ps, 1, none⟩ = some (.int .i64 y)) [15, 17] #[false, false, false, false, false, false, false, false, false, false, false, false, false, false, false, false, false, false, false] (by kernel_rfl) rfl ?_
          refine Lim.stepR 0 (fun _ => trivial) rfl (by kernel_rfl) (fun _ _ _ _ h => h) hC rfl ?_; apply Exists.intro; refine ⟨?_, ?_⟩
          · rintro w ⟨r1, r2, r3, r4⟩; go_simp; try with_reducible rfl
          simp only [Act.put, List.setIfInBounds_toArray, List.set_cons_succ, List.set_cons_zero]
          refine Lim.stepR 1 (fun _ => trivial) rfl (by kernel_rfl) (fun _ _ _ _ h => h) hC rfl ?_; apply Exists.intro; refine ⟨?_, ?_⟩
          · rintro w ⟨r1, r2, r3, r4⟩; go_simp; try with_reducible rfl
          simp only [Act.put, List.setIfInBounds_toArray, List.set_cons_succ, List.set_cons_zero]
          refine Lim.stepR 2 (fun _ => trivial) rfl (by kernel_rfl) (fun _ _ _ _ h => h) hC rfl ?_; apply Exists.intro; refine ⟨?_, ?_⟩
          · rintro w ⟨r1, r2, r3, r4⟩; go_simp; try with_reducible rfl
          simp only [Act.put, List.setIfInBounds_toArray, List.set_cons_succ, List.set_cons_zero]
          refine Lim.stepR 5 (fun _ => trivial) rfl (by kernel_rfl) (fun _ _ _ _ h => h) hC rfl ?_; apply Exists.intro; refine ⟨?_, ?_⟩
          · rintro w ⟨r1, r2, r3, r4⟩; go_simp; try with_reducible rfl
          simp only [Act.put, List.setIfInBounds_toArray, List.set_cons_succ, List.set_cons_zero]
          refine Lim.stepR 6 (fun _ => trivial) rfl (by kernel_rfl) (fun _ _ _ _ h => h) hC rfl ?_; apply Exists.intro; refine ⟨?_, ?_⟩
          · rintro w ⟨r1, r2, r3, r4⟩; go_simp; try with_reducible rfl
          simp only [Act.put, List.setIfInBounds_toArray, List.set_cons_succ, List.set_cons_zero]
          refine Lim.stepR 7 (fun _ => trivial) rfl (by kernel_rfl) (fun _ _ _ _ h => h) hC rfl ?_; apply Exists.intro; refine ⟨?_, ?_⟩
          · rintro w ⟨r1, r2, r3, r4⟩; go_simp; try with_reducible rfl
          simp only [Act.put, List.setIfInBounds_toArray, List.set_cons_succ, List.set_cons_zero]
          refine Lim.stepR 10 (fun _ => trivial) rfl (by kernel_rfl) (fun _ _ _ _ h => h) hC rfl ?_; apply Exists.intro; refine ⟨?_, ?_⟩
          · rintro w ⟨r1, r2, r3, r4⟩; go_simp; try with_reducible rfl
          simp only [Act.put, List.setIfInBounds_toArray, List.set_cons_succ, List.set_cons_zero]
          refine Lim.stepR 11 (fun _ => trivial) rfl (by kernel_rfl) (fun _ _ _ _ h => h) hC rfl ?_; apply Exists.intro; refine ⟨?_, ?_⟩
          · rintro w ⟨r1, r2, r3, r4⟩; go_simp; try with_reducible rfl
          simp only [Act.put, List.setIfInBounds_toArray, List.set_cons_succ, List.set_cons_zero]
          clear hC
          refine Lim.parE [3, 4, 8, 9, 12, 13, 14, 15, 16, 17, 18] (fun done a W => ∃ x10 x54 x55 x59 x60 x63 x64 x65 x66, a = { tmps := #[.pointer (some ⟨d, 0, none⟩), .int .i64 C, .int .i64 R, undef, undef, undef, .pointer (some ⟨w.heap.size, 0, none⟩), .slice none 0 0, .pointer (some ⟨w.heap.size + 1, 0, none⟩), .int .i64 ↑N, x10, .int .i64 h, .pointer (some ⟨ps, 0, none⟩), .int .i64 z, undef, undef, undef, .pointer (some ⟨d, 0, none⟩), .int .i64 C, .int .i64 wd, .agg #[.int .i64 wd, .slice none 0 0, .slice none 0 0], .pointer (some ⟨w.heap.size + 1, 0, none⟩), .int .i64 wd, .pointer (some ⟨d, 0, none⟩), .int .i64 R, .int .i64 rows, .int .i64 ↑N, .int .i64 ↑N, .int .i64 ↑k, u29, u30, u31, u32, u33, u34, u35, u36, u37, u38, u39, u40, u41, u42, u43, u44, u45, u46, u47, u48, u49, u50, .pointer (some ⟨w.heap.size + 1, 1, none⟩), hv, .agg #[.int .i64 x, .int .i64 y], x54, x55, .pointer (some ⟨w.heap.size + 1, 2, none⟩), sv, .int .i64 z, x59, x60, u10, .int .i64 h, x63, x64, x65, x66, u67, undef, undef, undef, undef, undef, undef, undef, undef, undef, undef, undef, undef, undef, undef, undef, undef, undef, undef, undef, undef, undef, undef, undef, undef, undef, undef, undef, undef, undef, undef, undef, undef, undef, undef, undef, undef, undef, undef, undef, undef, undef, undef, undef, undef, undef, undef, undef, undef, undef, undef, undef, undef, undef, undef, undef, undef, undef, undef, undef, undef, undef, undef, undef, undef, undef], defers := [] } ∧ M15 w d wd c2 hv sv u10 k hs ss T ps x y z h done x10 x54 x55 x59 x60 x63 x64 W ∧ (done 14 = true → x65 = .pointer (some ⟨w.heap.size + 1, 1, none⟩)) ∧ (done 16 = true → x66 = .pointer (some ⟨w.heap.size + 1, 2, none⟩))) (fun _ => trivial) (by kernel_rfl) rfl ?hC ?step ?fin ⟨_, _, _, _, _, _, _, _, _, rfl, HM11.out.begin, fun h => (by cases h), fun h => (by cases h)⟩
          case hC =>
            rintro done a W ⟨x10, x54, x55, x59, x60, x63, x64, x65, x66, rfl, H, h65, h66⟩ hE
            obtain ⟨u1, u2, hc, h1, -, h2, -⟩ := H.core
            have e1 := h1 (hE 15 (by simp))
            have e2 := h2 (hE 17 (by simp))
            subst e1 e2
            have h3 := (cell_of_heap hc.bx).1
            have h4 := two_cells (span_heap (hc.sep.own 6 (by omega))).2
            exact ⟨h3.2.1, h3.2.2, h4.1.1, h4.1.2⟩
          case step =>
            intro i o hi ho done a W hd hdep hS K hK
            obtain ⟨x10, x54, x55, x59, x60, x63, x64, x65, x66, rfl, H, h65, h66⟩ := hS
            simp only [List.mem_cons, List.not_mem_nil, or_false] at hi
            rcases hi with rfl | rfl | rfl | rfl | rfl | rfl | rfl | rfl | rfl | rfl | rfl
            · cases ho
              clear hdep
              go_simp
              refine hK _ _ ?_
              exact ⟨_, _, _, _, _, _, _, _, _, rfl, H.st3 hd, fun h => h65 (by simpa using h), fun h => h66 (by simpa using h)⟩
            · cases ho
              have h1 := hdep 3 (by kernel_rfl) (by simp)
              clear hdep
              obtain ⟨bq, rfl⟩ := H.s3 h1
              obtain ⟨u1, u2, hc, -⟩ := H.core
              have o0 : W.ownsRow w.heap.size 54 2 hv k (spans hs) := by have := hc.sep.own 0 (by omega); simpa [rowsD, hd, Row.Owned] using this
              have o3 : W.ownsRow w.heap.size 54 2 (.slice (some ⟨bq, 0, none⟩) 1 1) 1 [.int .i64 x, .int .i64 y] := by have := hc.sep.own 3 (by omega); simpa [rowsD, h1, Row.Owned] using this
              obtain ⟨v', W', hrun, hown, hgrow, -, hat⟩ := run_append_own_at (P := Try.prog) W w.heap.size 22 22 54 i0 (.agg #[.int .i64 0, .int .i64 0]) 2 16 Try.underlying22 HSP.out.1 HSP.out.2.1 HSP.out.2.2.1 HSP.out.2.2.2 rfl (by decide) hv k (spans hs) o0 ⟨bq, 0, none⟩ 1 1 [.int .i64 x, .int .i64 y] rfl (fun j u hj => o3.cells (g := bq) rfl j u hj) (by simp [Value.oneCell']) (by have := HN.out.2; unfold maxLen; omega) (by have := HN.out.2; omega) hc.gr.size
              refine Lim.append_upon rfl rfl rfl hrun (hK _ _ ?_)
              simp only [Act.put, List.setIfInBounds_toArray, List.set_cons_succ, List.set_cons_zero]
              exact ⟨_, _, _, _, _, _, _, _, _, rfl, H.st4 hd h1 hown hgrow hat, fun h => h65 (by simpa using h), fun h => h66 (by simpa using h)⟩
            · cases ho
              clear hdep
              go_simp
              refine hK _ _ ?_
              exact ⟨_, _, _, _, _, _, _, _, _, rfl, H.st8 hd, fun h => h65 (by simpa using h), fun h => h66 (by simpa using h)⟩
            · cases ho
              have h1 := hdep 8 (by kernel_rfl) (by simp)
              clear hdep
              obtain ⟨bq, rfl⟩ := H.s8 h1
              obtain ⟨u1, u2, hc, -⟩ := H.core
              have o0 : W.ownsRow w.heap.size 3 1 sv k (ints ss) := by have := hc.sep.own 1 (by omega); simpa [rowsD, hd, Row.Owned] using this
              have o3 : W.ownsRow w.heap.size 3 1 (.slice (some ⟨bq, 0, none⟩) 1 1) 1 [.int .i64 z] := by have := hc.sep.own 4 (by omega); simpa [rowsD, h1, Row.Owned] using this
              obtain ⟨v', W', hrun, hown, hgrow, -, hat⟩ := run_append_own_at (P := Try.prog) W w.heap.size 23 23 3 i1 (.int .i64 0) 1 8 Try.underlying23 HIN.out.1 HIN.out.2.1 HIN.out.2.2.1 HIN.out.2.2.2 rfl (by decide) sv k (ints ss) o0 ⟨bq, 0, none⟩ 1 1 [.int .i64 z] rfl (fun j u hj => o3.cells (g := bq) rfl j u hj) (by simp [Value.oneCell']) (by have := HN.out.2; unfold maxLen; omega) (by have := HN.out.2; omega) hc.gr.size
              refine Lim.append_upon rfl rfl rfl hrun (hK _ _ ?_)
              simp only [Act.put, List.setIfInBounds_toArray, List.set_cons_succ, List.set_cons_zero]
              exact ⟨_, _, _, _, _, _, _, _, _, rfl, H.st9 hd h1 hown hgrow hat, fun h => h65 (by simpa using h), fun h => h66 (by simpa using h)⟩
            · cases ho
              clear hdep
              go_simp
              refine hK _ _ ?_
              exact ⟨_, _, _, _, _, _, _, _, _, rfl, H.st12 hd, fun h => h65 (by simpa using h), fun h => h66 (by simpa using h)⟩
            · cases ho
              have h1 := hdep 12 (by kernel_rfl) (by simp)
              clear hdep
              obtain ⟨bq, rfl⟩ := H.s12 h1
              obtain ⟨u1, u2, hc, -⟩ := H.core
              have o0 : W.ownsRow w.heap.size 3 1 u10 k (ints T) := by have := hc.sep.own 2 (by omega); simpa [rowsD, hd, Row.Owned] using this
              have o3 : W.ownsRow w.heap.size 3 1 (.slice (some ⟨bq, 0, none⟩) 1 1) 1 [.int .i64 h] := by have := hc.sep.own 5 (by omega); simpa [rowsD, h1, Row.Owned] using this
              obtain ⟨v', W', hrun, hown, hgrow, -, hat⟩ := run_append_own_at (P := Try.prog) W w.heap.size 23 23 3 i1 (.int .i64 0) 1 8 Try.underlying23 HIN.out.1 HIN.out.2.1 HIN.out.2.2.1 HIN.out.2.2.2 rfl (by decide) u10 k (ints T) o0 ⟨bq, 0, none⟩ 1 1 [.int .i64 h] rfl (fun j u hj => o3.cells (g := bq) rfl j u hj) (by simp [Value.oneCell']) (by have := HN.out.2; unfold maxLen; omega) (by have := HN.out.2; omega) hc.gr.size
              refine Lim.append_upon rfl rfl rfl hrun (hK _ _ ?_)
              simp only [Act.put, List.setIfInBounds_toArray, List.set_cons_succ, List.set_cons_zero]
              exact ⟨_, _, _, _, _, _, _, _, _, rfl, H.st13 hd h1 hown hgrow hat, fun h => h65 (by simpa using h), fun h => h66 (by simpa using h)⟩
            · cases ho
              clear hdep
              go_simp
              refine hK _ _ ?_
              exact ⟨_, _, _, _, _, _, _, _, _, rfl, H.skip (by omega), fun h => by first | rfl | exact h65 (by simpa using h), fun h => by first | rfl | exact h66 (by simpa using h)⟩
            · cases ho
              have h1 := hdep 4 (by kernel_rfl) (by simp)
              obtain rfl := h65 (hdep 14 (by kernel_rfl) (by simp))
              clear hdep
              obtain ⟨u1, u2, hc, -⟩ := H.core
              have o0 : W.ownsRow w.heap.size 54 2 x55 (k + 1) (spans hs ++ [.int .i64 x, .int .i64 y]) := by have := hc.sep.own 0 (by omega); simpa [rowsD, h1, Row.Owned] using this
              obtain ⟨aa, ac, rfl, -⟩ := RS.of_owns o0
              obtain ⟨⟨k0, k1, k2⟩, f0, f1, f2⟩ := cell_of_heap hc.bx
              clear hc o0
              go_simp
              refine hK _ _ ?_
              exact ⟨_, _, _, _, _, _, _, _, _, rfl, H.st15 h1, fun h => by first | rfl | exact h65 (by simpa using h), fun h => by first | rfl | exact h66 (by simpa using h)⟩
            · cases ho
              clear hdep
              go_simp
              refine hK _ _ ?_
              exact ⟨_, _, _, _, _, _, _, _, _, rfl, H.skip (by omega), fun h => by first | rfl | exact h65 (by simpa using h), fun h => by first | rfl | exact h66 (by simpa using h)⟩
            · cases ho
              have h1 := hdep 9 (by kernel_rfl) (by simp)
              obtain rfl := h66 (hdep 16 (by kernel_rfl) (by simp))
              clear hdep
              obtain ⟨u1, u2, hc, -⟩ := H.core
              have o0 : W.ownsRow w.heap.size 3 1 x60 (k + 1) (ints ss ++ [.int .i64 z]) := by have := hc.sep.own 1 (by omega); simpa [rowsD, h1, Row.Owned] using this
              obtain ⟨aa, ac, rfl, -⟩ := RS.of_owns o0
              obtain ⟨⟨k0, k1, k2⟩, f0, f1, f2⟩ := cell_of_heap hc.bx
              clear hc o0
              go_simp
              refine hK _ _ ?_
              exact ⟨_, _, _, _, _, _, _, _, _, rfl, H.st17 h1, fun h => by first | rfl | exact h65 (by simpa using h), fun h => by first | rfl | exact h66 (by simpa using h)⟩
            · cases ho
              have h1 := hdep 13 (by kernel_rfl) (by simp)
              clear hdep
              go_simp
              refine hK _ _ ?_
              exact ⟨_, _, _, _, _, _, _, _, _, rfl, H.st18 h1, fun h => h65 (by simpa using h), fun h => h66 (by simpa using h)⟩
          case fin =>
            rintro done a W hall ⟨x10, x54, x55, x59, x60, x63, x64, x65, x66, rfl, H, h65, h66⟩
            have HM12 := Lib.hid (H.fin (hall 4 (by simp)) (hall 9 (by simp)) (hall 13 (by simp)) (hall 15 (by simp)) (hall 17 (by simp)) (hall 18 (by simp)))
            clear H hall HM11
            go_wp2
            go_roundw
            case rel => exact ⟨k + 1, c2, _, _, _, _, _, by omega, by go_num, Lib.hid (by have := HCC.out; have := HX.out; have := HZ.out; omega), Lib.hid (HCL.out.snoc HX.out.2 ⟨HZ.out.1, HZ.out.2.1⟩), HM12⟩
            case measure => simp [intOf]; omega
    · have hkN : k = N := by omega
      subst hkN
      obtain ⟨sb, cap, rfl⟩ := HM.out.form (by have := HN.out.2; omega)
      obtain ⟨hb, hcap, rfl⟩ : ∃ hb hcap, hv = .slice (some ⟨hb, 0, none⟩) k hcap := by
        rcases (HM.out.sep.own 0 (by omega)).2 with ⟨h1, h2⟩ | ⟨g, cap, cur, h1, -⟩
        · have := h2; have := HN.out.2; simp [rows3] at h2; omega
        · exact ⟨g, cap, h1⟩
      obtain ⟨tb, tcap, rfl⟩ : ∃ tb tcap, u10 = .slice (some ⟨tb, 0, none⟩) k tcap := by
        rcases (HM.out.sep.own 2 (by omega)).2 with ⟨h1, h2⟩ | ⟨g, cap, cur, h1, -⟩
        · have := h2; have := HN.out.2; simp [rows3] at h2; omega
        · exact ⟨g, cap, h1⟩
      obtain ⟨N1, hN1⟩ : ∃ N1 : Nat, N1 + 1 = k := ⟨k - 1, by have := HN.out.2; omega⟩
      have e1 : IntKind.i64.wrap ((k : Int) - 1) = (N1 : Int) := by rw [IntWalk.i64_in _ (by have := HN.out.2; omega)]; omega
      have hp0 : (0 : Int) < (k : Int) := by omega
      have hp1 : (N1 : Int) < (k : Int) := by omega
      have hp00 : 0 < k := by omega
      have hp10 : N1 < k := by omega
      have HN1 := Lib.hid hN1
      have HM1 := Lib.hid (HM.out.below (Below.refl _ wr).drew)
      have hC : (fun W => W.cell? ⟨w.heap.size + 1, 2, none⟩ = some (.slice (some ⟨sb, 0, none⟩) k cap)) wr.drew := (cell_of_heap HM1.out.bx).1.2.2
      clear HM hN1 hlt hk
      go_wp2_with fail
      refine Lim.regC' (fun W => W.cell? ⟨w.heap.size + 1, 2, none⟩ = some (.slice (some ⟨sb, 0, none⟩) k cap)) [] #[false, false, false, false, false, false, false, false, false, false] (by kernel_rfl) rfl ?_
      generalize wr.drew = W1 at HM1 hC ⊢
      refine Lim.stepR 0 (fun _ => trivial) rfl (by kernel_rfl) (fun _ _ _ _ h => h) hC rfl ?_; apply Exists.intro; refine ⟨?_, ?_⟩
      · rintro w r1; go_simp; try with_reducible rfl
      simp only [Act.put, List.setIfInBounds_toArray, List.set_cons_succ, List.set_cons_zero]
      refine Lim.stepR 1 (fun _ => trivial) rfl (by kernel_rfl) (fun _ _ _ _ h => h) hC rfl ?_; apply Exists.intro; refine ⟨?_, ?_⟩
      · rintro w r1; go_simp; try with_reducible rfl
      simp only [Act.put, List.setIfInBounds_toArray, List.set_cons_succ, List.set_cons_zero]
      refine Lim.stepR 2 (fun _ => trivial) rfl (by kernel_rfl) (fun _ _ _ _ h => h) hC rfl ?_; apply Exists.intro; refine ⟨?_, ?_⟩
      · rintro w r1; go_simp; try with_reducible rfl
      simp only [Act.put, List.setIfInBounds_toArray, List.set_cons_succ, List.set_cons_zero]
      refine Lim.stepR 3 (fun _ => trivial) rfl (by kernel_rfl) (fun _ _ _ _ h => h) hC rfl ?_; apply Exists.intro; refine ⟨?_, ?_⟩
      · rintro w r1; go_simp; try with_reducible rfl
      simp only [Act.put, List.setIfInBounds_toArray, List.set_cons_succ, List.set_cons_zero]
      refine Lim.stepR 4 (fun _ => trivial) rfl (by kernel_rfl) (fun _ _ _ _ h => h) hC rfl ?_; apply Exists.intro; refine ⟨?_, ?_⟩
      · rintro w r1; go_simp; try with_reducible rfl
      simp only [Act.put, List.setIfInBounds_toArray, List.set_cons_succ, List.set_cons_zero]
      refine Lim.stepR 5 (fun _ => trivial) rfl (by kernel_rfl) (fun _ _ _ _ h => h) hC rfl ?_; apply Exists.intro; refine ⟨?_, ?_⟩
      · rintro w r1; go_simp; try with_reducible rfl
      simp only [Act.put, List.setIfInBounds_toArray, List.set_cons_succ, List.set_cons_zero]
      refine Lim.stepR 6 (fun _ => trivial) rfl (by kernel_rfl) (fun _ _ _ _ h => h) hC rfl ?_; apply Exists.intro; refine ⟨?_, ?_⟩
      · rintro w r1; go_simp; try with_reducible rfl
      simp only [Act.put, List.setIfInBounds_toArray, List.set_cons_succ, List.set_cons_zero]
      refine Lim.stepE 7 (fun _ => trivial) rfl (by kernel_rfl) rfl (fun K hK => ?_)   -- E store
      obtain ⟨q0, g0⟩ := HM1.out.sea (j := 0) hp00
      have HM2 := Lib.hid (HM1.out.setS (j := 0) 1 _ rfl)
      have hC1 : (fun W => W.cell? ⟨w.heap.size + 1, 2, none⟩ = some (.slice (some ⟨sb, 0, none⟩) k cap)) (W1.setCell ⟨sb, 0, none⟩ (.int .i64 1)) := (cell_of_heap HM2.out.bx).1.2.2
      go_simp
      refine hK _ _ hC1 ?_
      clear HM1 q0 g0 hC
      generalize W1.setCell ⟨sb, 0, none⟩ (.int .i64 1) = W2 at HM2 hC1 ⊢
      simp only [Act.put, List.setIfInBounds_toArray, List.set_cons_succ, List.set_cons_zero]
      refine Lim.stepR 8 (fun _ => trivial) rfl (by kernel_rfl) (fun _ _ _ _ h => h) hC1 rfl ?_; apply Exists.intro; refine ⟨?_, ?_⟩
      · rintro w r1; go_simp; try with_reducible rfl
      simp only [Act.put, List.setIfInBounds_toArray, List.set_cons_succ, List.set_cons_zero]
      refine Lim.stepE 9 (fun _ => trivial) rfl (by kernel_rfl) rfl (fun K hK => ?_)   -- E store
      obtain ⟨q0, g0⟩ := HM2.out.sea (j := N1) (by have := HN1.out; omega)
      have HM3 := Lib.hid (HM2.out.setS (j := N1) 2 _ rfl)
      have hC2 : (fun W => W.cell? ⟨w.heap.size + 1, 2, none⟩ = some (.slice (some ⟨sb, 0, none⟩) k cap)) (W2.setCell ⟨sb, N1, none⟩ (.int .i64 2)) := (cell_of_heap HM3.out.bx).1.2.2
      go_simp
      refine hK _ _ hC2 ?_
      clear HM2 q0 g0 hC1
      generalize W2.setCell ⟨sb, N1, none⟩ (.int .i64 2) = W3 at HM3 hC2 ⊢
      simp only [Act.put, List.setIfInBounds_toArray, List.set_cons_succ, List.set_cons_zero]
      refine Lim.stepD (by kernel_rfl) ?_
      clear hC2
      have HS0 : Hid (SeaOk wd.toNat k (fun _ _ => False) ((ss.set 0 1).set N1 2)) := Lib.hid (by
        have h := SeaOk.begin (m := wd.toNat) (N := k) (by have := HN.out.2; omega) HCL.out.l2 HCL.out.s
        have e : k - 1 = N1 := by have := HN1.out; omega
        rw [e] at h; exact h)
      have hp2 : (N1 : Int) ≤ 99 := by have := HN.out.2; omega
      generalize (ss.set 0 1).set N1 2 = s0 at HS0 HM3
      go_wp2_with fail
      go_loopw [78] (fun i W => ∃ (j : Nat) (sj : List Int), j ≤ N1 ∧ i = .int .i64 j ∧ Hid (SeaOk wd.toNat k (fun c _ => c < j) sj) ∧ Hid (MaS w d wd c (.slice (some ⟨hb, 0, none⟩) k hcap) (.slice (some ⟨sb, 0, none⟩) k cap) (.slice (some ⟨tb, 0, none⟩) k tcap) k hs sj T (nilRow 54 2) W)) (fun i _ => N1 - (intOf i).toNat)
      case atStart => exact ⟨0, s0, Nat.zero_le _, rfl, Lib.hid (HS0.out.more (fun c j h => absurd h (by omega))), HM3⟩
      case round =>
        clear HM3 HS0
        obtain ⟨j, sj, hj, rfl, HS, HM⟩ := hrel
        by_cases hlt : j < N1
        · obtain ⟨q0, -⟩ := HM.out.sea (j := j) (by omega)
          obtain ⟨v0, hv0⟩ : ∃ v0, v0 = sj.getD j 0 := ⟨_, rfl⟩
          rw [← hv0] at q0
          obtain ⟨⟨b0, b1, b2⟩, -, -, -⟩ := cell_of_heap HM.out.bx
          have hjk : (j : Int) < (k : Int) := by omega
          have hjk' : j < k := by omega
          by_cases h2 : v0 = 2
          · subst h2
            have hj0 : j ≠ 0 := fun e => by
              subst e
              rw [HS.out.a] at hv0
              cases hv0
            have HJ : Hid (j ≠ 0 ∧ j ≠ k - 1) := Lib.hid ⟨hj0, by omega⟩
            clear hv0 hj0
            go_wp2_with fail
            clear q0 b0 b1 b2
            go_loopw [88] (fun i W => ∃ (y : Nat) (sy : List Int), y ≤ k ∧ i = .int .i64 y ∧ Hid (SeaOk wd.toNat k (fun c b => c < j ∨ (c = j ∧ b < y)) sy) ∧ Hid (MaS w d wd c (.slice (some ⟨hb, 0, none⟩) k hcap) (.slice (some ⟨sb, 0, none⟩) k cap) (.slice (some ⟨tb, 0, none⟩) k tcap) k hs sy T (nilRow 54 2) W)) (fun i _ => k - (intOf i).toNat)
            case atStart => exact ⟨0, sj, Nat.zero_le _, rfl, Lib.hid (HS.out.more (fun c b h => .inl (by omega))), HM⟩
            case round =>
              clear HM HS
              obtain ⟨y, sy, hy, rfl, HS, HM⟩ := hrel
              by_cases hly : y < k
              · obtain ⟨q0, -⟩ := HM.out.sea (j := y) hly
                obtain ⟨v1, hv1⟩ : ∃ v1, v1 = sy.getD y 0 := ⟨_, rfl⟩
                rw [← hv1] at q0
                obtain ⟨⟨b0, b1, b2⟩, -, -, -⟩ := cell_of_heap HM.out.bx
                by_cases h1 : v1 = 1
                · subst h1
                  clear hv1
                  go_wp2_with fail
                  refine (lbeside_wd (wd := wd) (by have := HWD.out; omega) j y _ _ _ (by have := HN.out.2; omega) (by have := HN.out.2; omega)).mono ?_
                  rintro e W5 ⟨rfl, hb5⟩
                  have HM5 := Lib.hid (HM.out.below hb5)
                  obtain ⟨bb, hbb⟩ : ∃ bb, bb = bes wd.toNat j y := ⟨_, rfl⟩
                  rw [← hbb]
                  have HBB := Lib.hid hbb
                  clear hb5 q0 b0 b1 b2 hbb HM
                  obtain ⟨⟨b0, b1, b2⟩, -, -, -⟩ := cell_of_heap HM5.out.bx
                  cases bb with
                  | true =>
                    obtain ⟨q0, g0⟩ := HM5.out.sea (j := j) hjk'
                    have HM6 := Lib.hid (HM5.out.setS (j := j) 0 _ rfl)
                    go_wp2
                    go_roundw
                    case rel => exact ⟨y + 1, sy.set j 0, by omega, by go_num, Lib.hid ((HS.out.dry HJ.out.1 HJ.out.2).more (fun c b h => by
                        by_cases e : c = j
                        · right; intro e2; rw [e, getD_set, if_pos ⟨rfl, by rw [HS.out.len]; omega⟩] at e2; cases e2
                        · left; omega)), HM6⟩
                    case measure => simp [intOf]; omega
                  | false =>
                    go_wp2
                    go_roundw
                    case rel => exact ⟨y + 1, sy, by omega, by go_num, Lib.hid (HS.out.more (fun c b h => by
                        by_cases e : c = j ∧ b = y
                        · right; intro _ _; rw [e.1, e.2]; exact HBB.out.symm
                        · left; omega)), HM5⟩
                    case measure => simp [intOf]; omega
                · have d1 : (v1 == 1) = false := by rw [beq_eq_false_iff_ne]; exact h1
                  have HV := Lib.hid (And.intro hv1 h1)
                  clear hv1 h1
                  go_wp2
                  go_roundw
                  case rel => exact ⟨y + 1, sy, by omega, by go_num, Lib.hid (HS.out.more (fun c b h => by
                      by_cases e : c = j ∧ b = y
                      · right; intro _ e2; rw [e.2, ← HV.out.1] at e2; exact absurd e2 HV.out.2
                      · left; omega)), HM⟩
                  case measure => simp [intOf]; omega
              · have hyk : y = k := by omega
                subst hyk
                have hN1 := HN1.out
                have hlt' := hlt
                go_wp2
                go_roundw
                case rel => exact ⟨j + 1, sy, by omega, by go_num, Lib.hid (HS.out.more (fun c b h => by
                    by_cases e : c = j
                    · by_cases e3 : b < y
                      · left; omega
                      · right; intro _ e2
                        rw [List.getD_eq_getElem?_getD, List.getElem?_eq_none (by rw [HS.out.len]; omega)] at e2
                        cases e2
                    · left; omega)), HM⟩
                case measure => simp [intOf]; omega
          · have d2 : (v0 == 2) = false := by rw [beq_eq_false_iff_ne]; exact h2
            have HV := Lib.hid (And.intro hv0 h2)
            clear hv0 h2
            go_wp2
            go_roundw
            case rel => exact ⟨j + 1, sj, by omega, by go_num, Lib.hid (HS.out.more (fun c b h => by
                by_cases e : c = j
                · right; intro e2; rw [e, ← HV.out.1] at e2; exact absurd e2 HV.out.2
                · left; omega)), HM⟩
            case measure => simp [intOf]; omega
        · have hjN : j = N1 := by omega
          subst hjN
          clear hlt hj
          go_wp2_with fail
          go_loopw [110] (fun i W => ∃ (y : Nat) (sy : List Int), y ≤ k ∧ i = .int .i64 y ∧ Hid (SeaOk wd.toNat k (fun c b => c < j ∨ (c = j ∧ b < y)) sy) ∧ Hid (MaS w d wd c (.slice (some ⟨hb, 0, none⟩) k hcap) (.slice (some ⟨sb, 0, none⟩) k cap) (.slice (some ⟨tb, 0, none⟩) k tcap) k hs sy T (nilRow 54 2) W)) (fun i _ => k - (intOf i).toNat)
          case atStart => exact ⟨0, sj, Nat.zero_le _, rfl, Lib.hid (HS.out.more (fun c b h => .inl (by omega))), HM⟩
          case round =>
            clear HM HS
            obtain ⟨y, sy, hy, rfl, HS, HM⟩ := hrel
            by_cases hly : y < k
            · obtain ⟨q0, -⟩ := HM.out.sea (j := y) hly
              obtain ⟨v1, hv1⟩ : ∃ v1, v1 = sy.getD y 0 := ⟨_, rfl⟩
              rw [← hv1] at q0
              obtain ⟨⟨b0, b1, b2⟩, -, -, -⟩ := cell_of_heap HM.out.bx
              by_cases h1 : v1 = 1
              · subst h1
                have HV1 := Lib.hid hv1
                clear hv1
                go_wp2_with fail
                refine (lbeside_wd (wd := wd) (by have := HWD.out; omega) j y _ _ _ (by have := HN.out.2; have := HN1.out; omega) (by have := HN.out.2; omega)).mono ?_
                rintro e W5 ⟨rfl, hb5⟩
                have HM5 := Lib.hid (HM.out.below hb5)
                obtain ⟨bb, hbb⟩ : ∃ bb, bb = bes wd.toNat j y := ⟨_, rfl⟩
                rw [← hbb]
                have HBB := Lib.hid hbb
                clear hb5 q0 b0 b1 b2 hbb HM
                obtain ⟨⟨b0, b1, b2⟩, -, -, -⟩ := cell_of_heap HM5.out.bx
                cases bb with
                | true =>
                  obtain ⟨q0, g0⟩ := HM5.out.sea (j := y) hly
                  have HM6 := Lib.hid (HM5.out.setS (j := y) 0 _ rfl)
                  go_wp2
                  go_roundw
                  case rel => exact ⟨y + 1, sy.set y 0, by omega, by go_num, Lib.hid ((HS.out.dry (fun e => by
                        have h := bes_ends (m := wd.toNat) (rows := rows.toNat) (by have := HWD.out; omega) (by have := HROWS.out; omega)
                        have h2 : wd.toNat * rows.toNat - 1 = j := by
                          have h3 := HN.out.1
                          have h4 := HN1.out
                          have h5 := HWD.out
                          have h6 := HROWS.out
                          have h7 : ((wd.toNat * rows.toNat : Nat) : Int) = (k : Int) := by rw [Int.natCast_mul, ← h3, Int.toNat_of_nonneg (by omega), Int.toNat_of_nonneg (by omega)]
                          omega
                        rw [h2, ← e, ← HBB.out] at h
                        cases h) (fun e => by
                        have h := HV1.out
                        rw [e, HS.out.b] at h
                        cases h)).more (fun c b h => by
                      by_cases e : b = y
                      · right; intro _ e2; rw [e, getD_set, if_pos ⟨rfl, by rw [HS.out.len]; omega⟩] at e2; cases e2
                      · left; omega)), HM6⟩
                  case measure => simp [intOf]; omega
                | false =>
                  go_wp2
                  go_roundw
                  case rel => exact ⟨y + 1, sy, by omega, by go_num, Lib.hid (HS.out.more (fun c b h => by
                      by_cases e : c = j ∧ b = y
                      · right; intro _ _; rw [e.1, e.2]; exact HBB.out.symm
                      · left; omega)), HM5⟩
                  case measure => simp [intOf]; omega
              · have d1 : (v1 == 1) = false := by rw [beq_eq_false_iff_ne]; exact h1
                have HV := Lib.hid (And.intro hv1 h1)
                clear hv1 h1
                go_wp2
                go_roundw
                case rel => exact ⟨y + 1, sy, by omega, by go_num, Lib.hid (HS.out.more (fun c b h => by
                    by_cases e : c = j ∧ b = y
                    · right; intro _ e2; rw [e.2, ← HV.out.1] at e2; exact absurd e2 HV.out.2
                    · left; omega)), HM⟩
                case measure => simp [intOf]; omega
            · have hyk : y = k := by omega
              subst hyk
              obtain ⟨⟨b0, b1, b2⟩, -, -, -⟩ := cell_of_heap HM.out.bx
              obtain ⟨⟨z0, z1, z2⟩, zf0, zf1, zf2⟩ := cell_of_heap HM.out.zz
              go_wp2
              obtain ⟨o1, o2, o3, o4, o5⟩ := HM.out.out (.int .i64 wd) (.slice (some ⟨hb, 0, none⟩) y hcap) (.slice (some ⟨sb, 0, none⟩) y cap) _ rfl
              have hbx : (((wr.setCell ⟨w.heap.size, 0, none⟩ (.int .i64 wd)).setCell ⟨w.heap.size, 1, none⟩ (.slice (some ⟨hb, 0, none⟩) y hcap)).setCell ⟨w.heap.size, 2, none⟩ (.slice (some ⟨sb, 0, none⟩) y cap)).heap[w.heap.size]? = some (.cells #[.int .i64 wd, .slice (some ⟨hb, 0, none⟩) y hcap, .slice (some ⟨sb, 0, none⟩) y cap] 25 (0, 0)) := by
                rw [heap_setCell_self _ (heap_setCell_self _ (heap_setCell_self _ HM.out.zz))]; rfl
              obtain ⟨⟨b0, b1, b2⟩, -, -, -⟩ := cell_of_heap hbx
              have HFIN := Lib.hid (And.intro o1 (And.intro o2 (And.intro o3 (And.intro o4 o5))))
              clear z0 z1 z2 zf0 zf1 zf2 hbx o1 o2 o3 o4 o5 HM
              generalize ((wr.setCell ⟨w.heap.size, 0, none⟩ (.int .i64 wd)).setCell ⟨w.heap.size, 1, none⟩ (.slice (some ⟨hb, 0, none⟩) y hcap)).setCell ⟨w.heap.size, 2, none⟩ (.slice (some ⟨sb, 0, none⟩) y cap) = WF at HFIN b0 b1 b2 ⊢
              refine bodyPost_ret (v := .tuple #[.agg #[.int .i64 wd, .slice (some ⟨hb, 0, none⟩) y hcap, .slice (some ⟨sb, 0, none⟩) y cap], .slice (some ⟨tb, 0, none⟩) y tcap]) ?_ rfl ?_
              · exact results_ct (p := 6) (u := 7) (ty := 25) rfl _ _ w.heap.size _ rfl (load_ground b0 b1 b2)
              have h3 := HN.out.1
              have h5 := HWD.out
              have h6 := HROWS.out
              have h7 : wd.toNat * rows.toNat = y := by
                have : ((wd.toNat * rows.toNat : Nat) : Int) = (y : Int) := by rw [Int.natCast_mul, ← h3, Int.toNat_of_nonneg (by omega), Int.toNat_of_nonneg (by omega)]
                omega
              have h8 : ((wd.toNat : Nat) : Int) = wd := by omega
              have l1 := HCL.out.l1
              have l3 := HCL.out.l3
              have l2 := HS.out.len
              obtain ⟨o1, o2, o3, o4, o5⟩ := HFIN.out
              refine ⟨wd.toNat, rows.toNat, _, _, _, hs, sy, T, c, by rw [h8], ⟨by omega, by omega, ?_, ?_⟩, o1, by have := HCC.out; have := HN.out.2; omega, o2, by rw [l1]; exact o3, by rw [l2]; exact o4, by rw [l3]; exact o5⟩
              · rw [h7]
                exact ⟨l1, l2, l3, HCL.out.h, HS.out.v⟩
              · rw [h7]
                exact HS.out.more (fun c b _ => by
                  by_cases e : c < y ∧ b < y
                  · left; have := HN1.out; omega
                  · right; intro e1 e2
                    have := HS.out.len
                    by_cases e3 : c < y
                    · rw [List.getD_eq_getElem?_getD, List.getElem?_eq_none (by omega)] at e2; cases e2
                    · rw [List.getD_eq_getElem?_getD, List.getElem?_eq_none (by omega)] at e1; cases e1)
end Go.Proofs.Ytdgibmgifgdpbaa
