/-
  Parts of the proof, in the order in which they build: RsA.
-/
import Derived.Test.YtobmhamdkngehaaA21
import Derived.Test.YtobmhamdkngehaaA23
import Derived.Test.YtobmhamdkngehaaA11
set_option linter.unusedVariables false
set_option linter.unusedSimpArgs false
namespace Go.Proofs.Ytobmhamdkngehaa
open Go.RowKit Go.Shelf
open Lim

theorem RS.up {w w' : World} {v : Value} {n : Nat} {xs : List Value} (h : RS w.heap.size w v n xs) (hb : Below w.heap.size w w') : RS w'.heap.size w' v n xs := (h.below hb).mono hb.size
set_option maxRecDepth 20000 in
set_option maxHeartbeats 1000000 in
theorem rtwo_any {n ac : Nat} {a : Option Addr} {gv : Value} {tl lo hi i j : Int} {w : World} (h1g : gv.oneCell' = true) (hn : n ≤ 40) :
    Calls Try.prog 89 #[.agg #[.slice a n ac, gv, .int .i64 tl, .int .i64 lo, .int .i64 hi], .int .i64 i, .int .i64 j] w fun e w' => e = .returned (.int .i64 (if twoS n i j then 0 else 2)) ∧ Below w.heap.size w w' := by
  have HMB : Hid (Below w.heap.size w (w.alloc (.cells #[.slice a n ac, gv, .int .i64 tl, .int .i64 lo, .int .i64 hi] 35))) := Lib.hid ((Below.refl _ w).alloc (Nat.le_refl _) _)
  have HM : Hid ((fun W => (W.cell? ⟨w.heap.size, 0, none⟩ = some (.slice a n ac) ∧ W.cell? ⟨w.heap.size, 1, none⟩ = some gv ∧ W.cell? ⟨w.heap.size, 2, none⟩ = some (.int .i64 tl) ∧ W.cell? ⟨w.heap.size, 3, none⟩ = some (.int .i64 lo) ∧ W.cell? ⟨w.heap.size, 4, none⟩ = some (.int .i64 hi))) (w.alloc (.cells #[.slice a n ac, gv, .int .i64 tl, .int .i64 lo, .int .i64 hi] 35))) := Lib.hid ⟨by simp [go_sem], by simp [go_sem], by simp [go_sem], by simp [go_sem], by simp [go_sem]⟩
  obtain ⟨r, hr⟩ : ∃ r : Int, r = if twoS n i j then (0 : Int) else 2 := ⟨_, rfl⟩
  rw [← hr]
  obtain ⟨nI, hnI⟩ : ∃ x : Int, x = (n : Int) - 1 := ⟨_, rfl⟩
  have wn : IntKind.i64.wrap ((n : Int) - 1) = nI := by rw [hnI]; exact IntWalk.i64_in _ (by omega)
  have HTW : Hid (twoS n i j = (inR i 0 nI && (inR j 0 nI && decide (i ≠ j)))) := Lib.hid (by rw [hnI]; rfl)
  have HRR := Lib.hid hr
  clear hnI hr
  go_enter Try.func89, Try.ntmps89
  go_upto_region 1 with (fail)
  obtain ⟨q, hq⟩ : ∃ q, q = w.heap.size := ⟨_, rfl⟩
  rw [← hq] at HM
  simp only [← hq]
  clear hq
  generalize w.alloc (.cells #[.slice a n ac, gv, .int .i64 tl, .int .i64 lo, .int .i64 hi] 35) = w1 at HM HMB ⊢
  obtain ⟨k0, k1, k2, k3, k4⟩ := HM.out
  clear HM
  go_wp2_with fail
  refine (outside_any _ _ _ _).mono ?_
  rintro e w' ⟨rfl, rfl⟩
  obtain ⟨z1, hz1⟩ : ∃ z, z = inR i 0 nI := ⟨_, rfl⟩
  rw [← hz1] at HTW ⊢
  clear hz1
  cases z1 with
  | false =>
    have HE : Hid (r = 2) := Lib.hid (by rw [HRR.out, HTW.out]; rfl)
    go_wp2
    go_ret
    exact ⟨by rw [HE.out]; rfl, HMB.out⟩
  | true =>
    go_wp2_with fail
    refine (outside_any _ _ _ _).mono ?_
    rintro e w' ⟨rfl, rfl⟩
    obtain ⟨z2, hz2⟩ : ∃ z, z = inR j 0 nI := ⟨_, rfl⟩
    rw [← hz2] at HTW ⊢
    clear hz2
    cases z2 with
    | false =>
      have HE : Hid (r = 2) := Lib.hid (by rw [HRR.out, HTW.out]; rfl)
      go_wp2
      go_ret
      exact ⟨by rw [HE.out]; rfl, HMB.out⟩
    | true =>
      by_cases hij : i = j
      · have HE : Hid (r = 2) := Lib.hid (by rw [HRR.out, HTW.out, decide_eq_false (fun h => h hij)]; rfl)
        have d : (i == j) = true := by rw [hij]; simp
        clear hij
        go_wp2
        go_ret
        exact ⟨by rw [HE.out]; rfl, HMB.out⟩
      · have HE : Hid (r = 0) := Lib.hid (by rw [HRR.out, HTW.out, decide_eq_true hij]; rfl)
        have d : (i == j) = false := beq_eq_false_iff_ne.2 hij
        clear hij
        go_wp2
        go_ret
        exact ⟨by rw [HE.out]; rfl, HMB.out⟩
set_option maxRecDepth 20000 in
set_option maxHeartbeats 4000000 in
theorem rSees_any {B : Nat} {p : Pf} {av gv : Value} {i j : Int} {w : World} (hB : B ≤ w.heap.size) (ha : RS B w av p.ats.length (ints p.ats)) (hg : RS B w gv p.gr.length (spans p.gr)) :
    Calls Try.prog 50 #[.agg #[av, gv, .int .i64 p.tall, .int .i64 p.lo, .int .i64 p.hi], .int .i64 i, .int .i64 j] w fun e w' => e = .returned (seesAns p i j) ∧ Below w.heap.size w w' := by
  have h1g : gv.oneCell' = true := by obtain ⟨a, c, rfl, -⟩ := hg; rfl
  have HRG := Lib.hid (And.intro hB (And.intro ha hg))
  obtain ⟨a, ac, rfl, hac⟩ := ha
  obtain ⟨n, hn⟩ : ∃ x, x = p.ats.length := ⟨_, rfl⟩
  have HN : Hid (n = p.n) := Lib.hid hn
  obtain ⟨tl, htl⟩ : ∃ x, x = p.tall := ⟨_, rfl⟩
  obtain ⟨lo, hlo⟩ : ∃ x, x = p.lo := ⟨_, rfl⟩
  obtain ⟨hi, hhi⟩ : ∃ x, x = p.hi := ⟨_, rfl⟩
  have HT := Lib.hid (And.intro htl (And.intro hlo hhi))
  have HCK : Hid (∀ W, Below w.heap.size w W → Calls Try.prog 47 #[.agg #[.slice a n ac, gv, .int .i64 tl, .int .i64 lo, .int .i64 hi]] W fun e w' => e = .returned (.int .i64 p.err) ∧ Below W.heap.size W w') := Lib.hid fun W hW => by
    rw [hn, htl, hlo, hhi]
    exact rCheck_any (Nat.le_trans HRG.out.1 hW.size) (HRG.out.2.1.below (hW.mono HRG.out.1)) (HRG.out.2.2.below (hW.mono HRG.out.1))
  have HSR : Hid (∀ (hp : p.Ok) (i j : Nat) W, Below w.heap.size w W → i < p.n → j < p.n → Calls Try.prog 92 #[.agg #[.slice a n ac, gv, .int .i64 tl, .int .i64 lo, .int .i64 hi], .int .i64 (i : Int), .int .i64 (j : Int)] W fun e w' => e = .returned (.bool (p.sure i j)) ∧ Below W.heap.size W w') := Lib.hid fun hp i j W hW h1 h2 => by
    rw [hn, htl, hlo, hhi]
    exact rsure_any hp h1 h2 (Nat.le_trans HRG.out.1 hW.size) (HRG.out.2.1.below (hW.mono HRG.out.1)) (HRG.out.2.2.below (hW.mono HRG.out.1))
  rw [← hn, ← htl, ← hlo, ← hhi]
  have HMB : Hid (Below w.heap.size w (w.alloc (.cells #[.slice a n ac, gv, .int .i64 tl, .int .i64 lo, .int .i64 hi] 35))) := Lib.hid ((Below.refl _ w).alloc (Nat.le_refl _) _)
  have HM : Hid ((fun W => (W.cell? ⟨w.heap.size, 0, none⟩ = some (.slice a n ac) ∧ W.cell? ⟨w.heap.size, 1, none⟩ = some gv ∧ W.cell? ⟨w.heap.size, 2, none⟩ = some (.int .i64 tl) ∧ W.cell? ⟨w.heap.size, 3, none⟩ = some (.int .i64 lo) ∧ W.cell? ⟨w.heap.size, 4, none⟩ = some (.int .i64 hi))) (w.alloc (.cells #[.slice a n ac, gv, .int .i64 tl, .int .i64 lo, .int .i64 hi] 35))) := Lib.hid ⟨by simp [go_sem], by simp [go_sem], by simp [go_sem], by simp [go_sem], by simp [go_sem]⟩
  clear hac hn htl hlo hhi hB hg
  go_enter Try.func50, Try.ntmps50
  go_upto_region 1 with (fail)
  obtain ⟨q, hq⟩ : ∃ q, q = w.heap.size := ⟨_, rfl⟩
  have HQ := Lib.hid hq
  rw [← hq] at HM
  simp only [← hq]
  clear hq
  generalize w.alloc (.cells #[.slice a n ac, gv, .int .i64 tl, .int .i64 lo, .int .i64 hi] 35) = w1 at HM HMB ⊢
  obtain ⟨k0, k1, k2, k3, k4⟩ := HM.out
  clear HM
  go_wp2_with fail
  refine (HCK.out _ HMB.out).mono ?_
  rintro e w2 ⟨rfl, hb2⟩
  replace k0 := hb2.on k0
  replace k1 := hb2.on k1
  replace k2 := hb2.on k2
  replace k3 := hb2.on k3
  replace k4 := hb2.on k4
  have HB2 : Hid (Below w.heap.size w w2) := Lib.hid (HMB.out.trans (hb2.mono HMB.out.size))
  clear hb2 HMB HCK
  obtain ⟨er, her⟩ : ∃ x, x = p.err := ⟨_, rfl⟩
  rw [← her]
  have HER := Lib.hid her
  by_cases he : er = 0
  · have d1 : (er != 0) = false := by rw [he]; rfl
    have HOK : Hid (p.err = 0 ∧ p.Ok) := Lib.hid ⟨by rw [← her, he], err_ok (by rw [← her, he])⟩
    have HN40 : Hid (2 ≤ n ∧ n ≤ 40) := Lib.hid ⟨by rw [HN.out]; exact HOK.out.2.n2, by rw [HN.out]; exact HOK.out.2.n40⟩
    clear he her
    go_wp2_with fail
    refine (rtwo_any (i := i) (j := j) h1g (by have := HN40.out; omega)).mono ?_
    rintro e w3 ⟨rfl, hb3⟩
    replace k0 := hb3.on k0
    replace k1 := hb3.on k1
    replace k2 := hb3.on k2
    replace k3 := hb3.on k3
    replace k4 := hb3.on k4
    have HB3 : Hid (Below w.heap.size w w3) := Lib.hid (HB2.out.trans (hb3.mono HB2.out.size))
    clear hb3 HB2
    cases h2 : twoS n i j with
    | false =>
      rw [if_neg (by decide)]
      have HE : Hid (seesAns p i j = .tuple #[.bool false, .bool false, .int .i64 2]) := Lib.hid (by unfold seesAns; rw [if_neg (fun h => h HOK.out.1), ← HN.out, h2, if_neg (by decide)])
      clear h2 k0 k1 k2 k3 k4
      go_wp2
      go_ret3
      exact ⟨by rw [HE.out]; rfl, HB3.out⟩
    | true =>
      rw [if_pos rfl]
      have h3 : 0 ≤ i ∧ i < p.n ∧ 0 ≤ j ∧ j < p.n := by
        unfold twoS at h2
        rw [Bool.and_eq_true, Bool.and_eq_true, inR_iff, inR_iff] at h2
        have := HN.out
        omega
      obtain ⟨i', rfl⟩ : ∃ x : Nat, i = (x : Int) := ⟨i.toNat, by omega⟩
      obtain ⟨j', rfl⟩ : ∃ x : Nat, j = (x : Int) := ⟨j.toNat, by omega⟩
      have HE : Hid (seesAns p i' j' = .tuple #[.bool (p.sees true false i' j'), .bool (p.sure i' j'), .int .i64 0]) := Lib.hid (by unfold seesAns; rw [if_neg (fun h => h HOK.out.1), ← HN.out, h2, if_pos rfl]; rfl)
      have HSU : Hid (∀ W, Below w.heap.size w W → Calls Try.prog 92 #[.agg #[.slice a n ac, gv, .int .i64 tl, .int .i64 lo, .int .i64 hi], .int .i64 (i' : Int), .int .i64 (j' : Int)] W fun e w' => e = .returned (.bool (p.sure i' j')) ∧ Below W.heap.size W w') := Lib.hid fun W hW => HSR.out HOK.out.2 i' j' W hW (by omega) (by omega)
      have HHE : Hid (∀ b W, Below w.heap.size w W → Calls Try.prog 91 #[.agg #[.slice a n ac, gv, .int .i64 tl, .int .i64 lo, .int .i64 hi], .bool b] W fun e w' => ∃ v, e = .returned v ∧ RS w'.heap.size w' v p.n (ints (p.gr.map (endOf b))) ∧ Below W.heap.size W w') := Lib.hid fun b W hW => by
        refine (heights_any (b := b) (by have := HOK.out.2.gn; have := HOK.out.2.n40; omega) (Nat.le_trans HRG.out.1 hW.size) (HRG.out.2.2.below (hW.mono HRG.out.1))).mono ?_
        rintro e w' ⟨v, rfl, ho, hb⟩
        have hr := RS.of_owns ho
        rw [HOK.out.2.gn] at hr
        exact ⟨v, rfl, hr, hb⟩
      have HCL : Hid (∀ W hv sv, Below w.heap.size w W → RS W.heap.size W hv p.n (ints (p.gr.map (endOf true))) → RS W.heap.size W sv p.n (ints (p.gr.map (endOf false))) → Calls Try.prog 90 #[.agg #[.slice a n ac, gv, .int .i64 tl, .int .i64 lo, .int .i64 hi], hv, sv, .int .i64 lo, .int .i64 (i' : Int), .int .i64 (j' : Int)] W fun e w' => e = .returned (.bool (p.sees true false i' j')) ∧ Below W.heap.size W w') := Lib.hid fun W hv sv hW h1 h2' => by
        have h4 := (HRG.out.2.1.below (hW.mono HRG.out.1)).mono (Nat.le_trans HRG.out.1 hW.size)
        have h5 := rclear_any (gv := gv) (hh := true) (bh := false) (lo := lo) (hi := hi) HOK.out.2 (i := i') (j := j') (by omega) (by omega) (Nat.le_refl _) h4 h1 h2'
        rw [← HT.out.1, show endOf false p.bend = lo from HT.out.2.1.symm, show p.ats.length = n from HN.out.symm] at h5
        exact h5
      have hC : (fun W => (W.cell? ⟨q, 0, none⟩ = some (.slice a n ac) ∧ W.cell? ⟨q, 1, none⟩ = some gv ∧ W.cell? ⟨q, 2, none⟩ = some (.int .i64 tl) ∧ W.cell? ⟨q, 3, none⟩ = some (.int .i64 lo) ∧ W.cell? ⟨q, 4, none⟩ = some (.int .i64 hi))) w3.drew := ⟨by simpa using k0, by simpa using k1, by simpa using k2, by simpa using k3, by simpa using k4⟩
      have HB4 : Hid (Below w.heap.size w w3.drew) := Lib.hid HB3.out.drew
      clear k0 k1 k2 k3 k4 h2 h3 HB3 HSR
      go_wp2_with fail
      generalize hW0 : w3.drew = w4 at HB4 hC
      refine Lim.regC' (fun W => (W.cell? ⟨q, 0, none⟩ = some (.slice a n ac) ∧ W.cell? ⟨q, 1, none⟩ = some gv ∧ W.cell? ⟨q, 2, none⟩ = some (.int .i64 tl) ∧ W.cell? ⟨q, 3, none⟩ = some (.int .i64 lo) ∧ W.cell? ⟨q, 4, none⟩ = some (.int .i64 hi))) [] #[false, false, false, false, false, false, false, false, false, false, false, false, false, false, false, false, false, false] (by kernel_rfl) rfl ?_
      rw [hW0]; clear hW0
      refine Lim.stepR 0 (fun _ => trivial) rfl (by kernel_rfl) (fun _ _ _ _ h => h) hC rfl ?_; apply Exists.intro; refine ⟨?_, ?_⟩
      · rintro w ⟨r0, r1, r2, r3, r4⟩; go_simp; try with_reducible rfl
      simp only [Act.put, List.setIfInBounds_toArray, List.set_cons_succ, List.set_cons_zero]
      refine Lim.stepR 1 (fun _ => trivial) rfl (by kernel_rfl) (fun _ _ _ _ h => h) hC rfl ?_; apply Exists.intro; refine ⟨?_, ?_⟩
      · rintro w ⟨r0, r1, r2, r3, r4⟩; go_simp; try with_reducible rfl
      simp only [Act.put, List.setIfInBounds_toArray, List.set_cons_succ, List.set_cons_zero]
      refine Lim.stepR 3 (fun _ => trivial) rfl (by kernel_rfl) (fun _ _ _ _ h => h) hC rfl ?_; apply Exists.intro; refine ⟨?_, ?_⟩
      · rintro w ⟨r0, r1, r2, r3, r4⟩; go_simp; try with_reducible rfl
      simp only [Act.put, List.setIfInBounds_toArray, List.set_cons_succ, List.set_cons_zero]
      refine Lim.stepR 5 (fun _ => trivial) rfl (by kernel_rfl) (fun _ _ _ _ h => h) hC rfl ?_; apply Exists.intro; refine ⟨?_, ?_⟩
      · rintro w ⟨r0, r1, r2, r3, r4⟩; go_simp; try with_reducible rfl
      simp only [Act.put, List.setIfInBounds_toArray, List.set_cons_succ, List.set_cons_zero]
      refine Lim.stepR 6 (fun _ => trivial) rfl (by kernel_rfl) (fun _ _ _ _ h => h) hC rfl ?_; apply Exists.intro; refine ⟨?_, ?_⟩
      · rintro w ⟨r0, r1, r2, r3, r4⟩; go_simp; try with_reducible rfl
      simp only [Act.put, List.setIfInBounds_toArray, List.set_cons_succ, List.set_cons_zero]
      refine Lim.stepR 7 (fun _ => trivial) rfl (by kernel_rfl) (fun _ _ _ _ h => h) hC rfl ?_; apply Exists.intro; refine ⟨?_, ?_⟩
      · rintro w ⟨r0, r1, r2, r3, r4⟩; go_simp; try with_reducible rfl
      simp only [Act.put, List.setIfInBounds_toArray, List.set_cons_succ, List.set_cons_zero]
      refine Lim.stepR 8 (fun _ => trivial) rfl (by kernel_rfl) (fun _ _ _ _ h => h) hC rfl ?_; apply Exists.intro; refine ⟨?_, ?_⟩
      · rintro w ⟨r0, r1, r2, r3, r4⟩; go_simp; try with_reducible rfl
      simp only [Act.put, List.setIfInBounds_toArray, List.set_cons_succ, List.set_cons_zero]
      refine Lim.stepR 9 (fun _ => trivial) rfl (by kernel_rfl) (fun _ _ _ _ h => h) hC rfl ?_; apply Exists.intro; refine ⟨?_, ?_⟩
      · rintro w ⟨r0, r1, r2, r3, r4⟩; go_simp; try with_reducible rfl
      simp only [Act.put, List.setIfInBounds_toArray, List.set_cons_succ, List.set_cons_zero]
      refine Lim.stepR 11 (fun _ => trivial) rfl (by kernel_rfl) (fun _ _ _ _ h => h) hC rfl ?_; apply Exists.intro; refine ⟨?_, ?_⟩
      · rintro w ⟨r0, r1, r2, r3, r4⟩; go_simp; try with_reducible rfl
      simp only [Act.put, List.setIfInBounds_toArray, List.set_cons_succ, List.set_cons_zero]
      refine Lim.stepR 12 (fun _ => trivial) rfl (by kernel_rfl) (fun _ _ _ _ h => h) hC rfl ?_; apply Exists.intro; refine ⟨?_, ?_⟩
      · rintro w ⟨r0, r1, r2, r3, r4⟩; go_simp; try with_reducible rfl
      simp only [Act.put, List.setIfInBounds_toArray, List.set_cons_succ, List.set_cons_zero]
      refine Lim.stepR 13 (fun _ => trivial) rfl (by kernel_rfl) (fun _ _ _ _ h => h) hC rfl ?_; apply Exists.intro; refine ⟨?_, ?_⟩
      · rintro w ⟨r0, r1, r2, r3, r4⟩; go_simp; try with_reducible rfl
      simp only [Act.put, List.setIfInBounds_toArray, List.set_cons_succ, List.set_cons_zero]
      refine Lim.stepE 2 (fun _ => trivial) rfl (by kernel_rfl) rfl (fun K hK => ?_)   -- E call
      go_simp
      refine ⟨rfl, (callsIn_wide.2 (HHE.out true _ HB4.out)).mono ?_⟩
      rintro e w5 ⟨v5, rfl, ho5, hb5⟩
      have hC5 : (fun W => (W.cell? ⟨q, 0, none⟩ = some (.slice a n ac) ∧ W.cell? ⟨q, 1, none⟩ = some gv ∧ W.cell? ⟨q, 2, none⟩ = some (.int .i64 tl) ∧ W.cell? ⟨q, 3, none⟩ = some (.int .i64 lo) ∧ W.cell? ⟨q, 4, none⟩ = some (.int .i64 hi))) w5 := ⟨hb5.on hC.1, hb5.on hC.2.1, hb5.on hC.2.2.1, hb5.on hC.2.2.2.1, hb5.on hC.2.2.2.2⟩
      have HB5 : Hid (Below w4.heap.size w4 w5) := Lib.hid hb5
      have HO5 := Lib.hid ho5
      obtain ⟨a5, c5, rfl, -⟩ := ho5
      clear hb5 hC
      refine hK _ _ hC5 ?_
      simp only [Act.put, List.setIfInBounds_toArray, List.set_cons_succ, List.set_cons_zero]
      refine Lim.stepE 4 (fun _ => trivial) rfl (by kernel_rfl) rfl (fun K hK => ?_)   -- E call
      go_simp
      refine ⟨rfl, (callsIn_wide.2 (HHE.out false _ (HB4.out.trans (HB5.out.mono HB4.out.size)))).mono ?_⟩
      rintro e w6 ⟨v6, rfl, ho6, hb6⟩
      have hC6 : (fun W => (W.cell? ⟨q, 0, none⟩ = some (.slice a n ac) ∧ W.cell? ⟨q, 1, none⟩ = some gv ∧ W.cell? ⟨q, 2, none⟩ = some (.int .i64 tl) ∧ W.cell? ⟨q, 3, none⟩ = some (.int .i64 lo) ∧ W.cell? ⟨q, 4, none⟩ = some (.int .i64 hi))) w6 := ⟨hb6.on hC5.1, hb6.on hC5.2.1, hb6.on hC5.2.2.1, hb6.on hC5.2.2.2.1, hb6.on hC5.2.2.2.2⟩
      have HB6 : Hid (Below w.heap.size w w6) := Lib.hid (HB4.out.trans ((HB5.out.trans (hb6.mono HB5.out.size)).mono HB4.out.size))
      have HO6 := Lib.hid (And.intro (RS.up HO5.out hb6) ho6)
      obtain ⟨a6, c6, rfl, -⟩ := ho6
      clear hb6 hC5 HO5 HB5 HB4
      refine hK _ _ hC6 ?_
      simp only [Act.put, List.setIfInBounds_toArray, List.set_cons_succ, List.set_cons_zero]
      refine Lim.stepE 10 (fun _ => trivial) rfl (by kernel_rfl) rfl (fun K hK => ?_)   -- E call
      go_simp
      refine ⟨rfl, (callsIn_wide.2 (HCL.out _ _ _ HB6.out HO6.out.1 HO6.out.2)).mono ?_⟩
      rintro e w7 ⟨rfl, hb7⟩
      have hC7 : (fun W => (W.cell? ⟨q, 0, none⟩ = some (.slice a n ac) ∧ W.cell? ⟨q, 1, none⟩ = some gv ∧ W.cell? ⟨q, 2, none⟩ = some (.int .i64 tl) ∧ W.cell? ⟨q, 3, none⟩ = some (.int .i64 lo) ∧ W.cell? ⟨q, 4, none⟩ = some (.int .i64 hi))) w7 := ⟨hb7.on hC6.1, hb7.on hC6.2.1, hb7.on hC6.2.2.1, hb7.on hC6.2.2.2.1, hb7.on hC6.2.2.2.2⟩
      have HB7 : Hid (Below w.heap.size w w7) := Lib.hid (HB6.out.trans (hb7.mono HB6.out.size))
      clear hb7 hC6 HO6 HB6
      refine hK _ _ hC7 ?_
      simp only [Act.put, List.setIfInBounds_toArray, List.set_cons_succ, List.set_cons_zero]
      refine Lim.stepE 14 (fun _ => trivial) rfl (by kernel_rfl) rfl (fun K hK => ?_)   -- E call
      go_simp
      refine ⟨rfl, (callsIn_wide.2 (HSU.out _ HB7.out)).mono ?_⟩
      rintro e w8 ⟨rfl, hb8⟩
      have hC8 : (fun W => (W.cell? ⟨q, 0, none⟩ = some (.slice a n ac) ∧ W.cell? ⟨q, 1, none⟩ = some gv ∧ W.cell? ⟨q, 2, none⟩ = some (.int .i64 tl) ∧ W.cell? ⟨q, 3, none⟩ = some (.int .i64 lo) ∧ W.cell? ⟨q, 4, none⟩ = some (.int .i64 hi))) w8 := ⟨hb8.on hC7.1, hb8.on hC7.2.1, hb8.on hC7.2.2.1, hb8.on hC7.2.2.2.1, hb8.on hC7.2.2.2.2⟩
      have HB8 : Hid (Below w.heap.size w w8) := Lib.hid (HB7.out.trans (hb8.mono HB7.out.size))
      clear hb8 hC7 HB7
      refine hK _ _ hC8 ?_
      simp only [Act.put, List.setIfInBounds_toArray, List.set_cons_succ, List.set_cons_zero]
      refine Lim.stepR 15 (fun _ => trivial) rfl (by kernel_rfl) (fun _ _ _ _ h => h) hC8 rfl ?_; apply Exists.intro; refine ⟨?_, ?_⟩
      · rintro w ⟨r0, r1, r2, r3, r4⟩; go_simp; try with_reducible rfl
      simp only [Act.put, List.setIfInBounds_toArray, List.set_cons_succ, List.set_cons_zero]
      refine Lim.stepR 16 (fun _ => trivial) rfl (by kernel_rfl) (fun _ _ _ _ h => h) hC8 rfl ?_; apply Exists.intro; refine ⟨?_, ?_⟩
      · rintro w ⟨r0, r1, r2, r3, r4⟩; go_simp; try with_reducible rfl
      simp only [Act.put, List.setIfInBounds_toArray, List.set_cons_succ, List.set_cons_zero]
      refine Lim.stepR 17 (fun _ => trivial) rfl (by kernel_rfl) (fun _ _ _ _ h => h) hC8 rfl ?_; apply Exists.intro; refine ⟨?_, ?_⟩
      · rintro w ⟨r0, r1, r2, r3, r4⟩; go_simp; try with_reducible rfl
      simp only [Act.put, List.setIfInBounds_toArray, List.set_cons_succ, List.set_cons_zero]
      refine Lim.stepD (by kernel_rfl) ?_
      clear hC8
      go_wp2
      go_ret3
      exact ⟨by rw [HE.out]; rfl, HB8.out⟩
  · have d1 : (er != 0) = true := by rw [bne_iff_ne]; exact he
    have HNE : Hid (p.err ≠ 0 ∧ p.err = er) := Lib.hid ⟨by rw [← her]; exact he, her.symm⟩
    clear k0 k1 k2 k3 k4 her he
    have HE : Hid (seesAns p i j = .tuple #[.bool false, .bool false, .int .i64 er]) := Lib.hid (by unfold seesAns; rw [if_pos HNE.out.1, HNE.out.2])
    go_wp2
    go_ret3
    exact ⟨by rw [HE.out]; rfl, HB2.out⟩
end Go.Proofs.Ytobmhamdkngehaa
