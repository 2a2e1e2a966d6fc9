/-
  Parts of the proof, in the order in which they build: RpF.
-/
import Derived.Test.YtobmhamdkngehaaA21
import Derived.Test.YtobmhamdkngehaaA23
import Derived.Test.YtobmhamdkngehaaA16
set_option linter.unusedVariables false
set_option linter.unusedSimpArgs false
namespace Go.Proofs.Ytobmhamdkngehaa
open Go.RowKit Go.Shelf
open Lim

theorem inAll_to {n : Nat} {xs : List Int} (h : ∀ k, k < xs.length → inR (xs.getD k 0) 0 ((n : Int) - 1) = true) : inAll n xs = true := by
  unfold inAll
  rw [List.all_eq_true]
  intro x hx
  obtain ⟨k, hk, rfl⟩ := List.mem_iff_getElem.1 hx
  have := h k hk
  rwa [List.getD_eq_getElem?_getD, List.getElem?_eq_getElem hk] at this
theorem inAll_not {n : Nat} {xs : List Int} {k : Nat} (hk : k < xs.length) (h : inR (xs.getD k 0) 0 ((n : Int) - 1) = false) : inAll n xs = false := by
  rw [Bool.eq_false_iff]
  intro h2
  have := (List.all_eq_true.1 h2) xs[k] (List.getElem_mem hk)
  rw [List.getD_eq_getElem?_getD, List.getElem?_eq_getElem hk] at h
  rw [show (some xs[k]).getD (0 : Int) = xs[k] from rfl] at h
  rw [h] at this
  cases this
set_option maxRecDepth 20000 in
set_option maxHeartbeats 4000000 in
theorem rHolds_any {B : Nat} {p : Pf} {av gv v : Value} {xs : List Int} {w : World} (hB : B ≤ w.heap.size) (ha : RS B w av p.ats.length (ints p.ats)) (hg : RS B w gv p.gr.length (spans p.gr)) (hv : RS B w v xs.length (ints xs)) (hm : xs.length ≤ 1000) :
    Calls Try.prog 56 #[.agg #[av, gv, .int .i64 p.tall, .int .i64 p.lo, .int .i64 p.hi], v] w fun e w' => e = .returned (holdsAns p xs) ∧ Below w.heap.size w w' := by
  have h1g : gv.oneCell' = true := by obtain ⟨a, c, rfl, -⟩ := hg; rfl
  have HRG := Lib.hid (And.intro hB (And.intro ha hg))
  obtain ⟨a, ac, rfl, hac⟩ := ha
  obtain ⟨va, vc, rfl, hvc⟩ := hv
  have HVC := Lib.hid hvc
  obtain ⟨n, hn⟩ : ∃ x, x = p.ats.length := ⟨_, rfl⟩
  obtain ⟨m, hmm⟩ : ∃ x, x = xs.length := ⟨_, rfl⟩
  have HN : Hid (n = p.n ∧ m = xs.length) := Lib.hid ⟨hn, hmm⟩
  obtain ⟨tl, htl⟩ : ∃ x, x = p.tall := ⟨_, rfl⟩
  obtain ⟨lo, hlo⟩ : ∃ x, x = p.lo := ⟨_, rfl⟩
  obtain ⟨hi, hhi⟩ : ∃ x, x = p.hi := ⟨_, rfl⟩
  have HCK : Hid (∀ W, Below w.heap.size w W → Calls Try.prog 47 #[.agg #[.slice a n ac, gv, .int .i64 tl, .int .i64 lo, .int .i64 hi]] W fun e w' => e = .returned (.int .i64 p.err) ∧ Below W.heap.size W w') := Lib.hid fun W hW => by
    rw [hn, htl, hlo, hhi]
    exact rCheck_any (Nat.le_trans HRG.out.1 hW.size) (HRG.out.2.1.below (hW.mono HRG.out.1)) (HRG.out.2.2.below (hW.mono HRG.out.1))
  have HSR : Hid (∀ (hp : p.Ok) (i j : Nat) W, Below w.heap.size w W → i < p.n → j < p.n → Calls Try.prog 92 #[.agg #[.slice a n ac, gv, .int .i64 tl, .int .i64 lo, .int .i64 hi], .int .i64 (i : Int), .int .i64 (j : Int)] W fun e w' => e = .returned (.bool (p.sure i j)) ∧ Below W.heap.size W w') := Lib.hid fun hp i j W hW h1 h2 => by
    rw [hn, htl, hlo, hhi]
    exact rsure_any hp h1 h2 (Nat.le_trans HRG.out.1 hW.size) (HRG.out.2.1.below (hW.mono HRG.out.1)) (HRG.out.2.2.below (hW.mono HRG.out.1))
  rw [← hn, ← hmm, ← htl, ← hlo, ← hhi]
  have hm64 : m ≤ 1000 := by omega
  have HMB : Hid (Below w.heap.size w (w.alloc (.cells #[.slice a n ac, gv, .int .i64 tl, .int .i64 lo, .int .i64 hi] 35))) := Lib.hid ((Below.refl _ w).alloc (Nat.le_refl _) _)
  have HM : Hid ((w.alloc (.cells #[.slice a n ac, gv, .int .i64 tl, .int .i64 lo, .int .i64 hi] 35)).cell? ⟨w.heap.size, 0, none⟩ = some (.slice a n ac) ∧ (w.alloc (.cells #[.slice a n ac, gv, .int .i64 tl, .int .i64 lo, .int .i64 hi] 35)).cell? ⟨w.heap.size, 1, none⟩ = some gv ∧ (w.alloc (.cells #[.slice a n ac, gv, .int .i64 tl, .int .i64 lo, .int .i64 hi] 35)).cell? ⟨w.heap.size, 2, none⟩ = some (.int .i64 tl) ∧ (w.alloc (.cells #[.slice a n ac, gv, .int .i64 tl, .int .i64 lo, .int .i64 hi] 35)).cell? ⟨w.heap.size, 3, none⟩ = some (.int .i64 lo) ∧ (w.alloc (.cells #[.slice a n ac, gv, .int .i64 tl, .int .i64 lo, .int .i64 hi] 35)).cell? ⟨w.heap.size, 4, none⟩ = some (.int .i64 hi)) := Lib.hid ⟨by simp [go_sem], by simp [go_sem], by simp [go_sem], by simp [go_sem], by simp [go_sem]⟩
  clear hac hvc hmm hn htl hlo hhi hB hg hm
  go_enter Try.func56, Try.ntmps56
  go_upto_region 1 with (fail)
  obtain ⟨q, hq⟩ : ∃ q, q = w.heap.size := ⟨_, rfl⟩
  rw [← hq] at HM
  simp only [← hq]
  clear hq
  generalize w.alloc (.cells #[.slice a n ac, gv, .int .i64 tl, .int .i64 lo, .int .i64 hi] 35) = w1 at HM HMB ⊢
  obtain ⟨k0, k1, k2, k3, k4⟩ := HM.out
  clear HM
  go_wp2_with fail
  refine (HCK.out _ HMB.out).mono ?_
  rintro e w2 ⟨rfl, hb2⟩
  replace k0 := hb2.on k0
  replace k1 := hb2.on k1
  replace k2 := hb2.on k2
  replace k3 := hb2.on k3
  replace k4 := hb2.on k4
  have HB2 : Hid (Below w.heap.size w w2) := Lib.hid (HMB.out.trans (hb2.mono HMB.out.size))
  clear hb2 HMB HCK
  obtain ⟨er, her⟩ : ∃ x, x = p.err := ⟨_, rfl⟩
  rw [← her]
  have HER := Lib.hid her
  by_cases he : er = 0
  · have d1 : (er != 0) = false := by rw [he]; rfl
    have HOK : Hid (p.err = 0 ∧ p.Ok) := Lib.hid ⟨by rw [← her, he], err_ok (by rw [← her, he])⟩
    have HN40 : Hid (2 ≤ n ∧ n ≤ 40) := Lib.hid ⟨by rw [HN.out.1]; exact HOK.out.2.n2, by rw [HN.out.1]; exact HOK.out.2.n40⟩
    obtain ⟨nI, hnI⟩ : ∃ x : Int, x = (n : Int) - 1 := ⟨_, rfl⟩
    have wn : IntKind.i64.wrap ((n : Int) - 1) = nI := by rw [hnI]; exact IntWalk.i64_in _ (by have := HN40.out; omega)
    have HNI := Lib.hid hnI
    clear he her hnI
    go_wp2_with fail
    go_loopw [7] (fun i W => ∃ k : Nat, k ≤ m ∧ i = .int .i64 (k : Int) ∧ Hid (Below w2.heap.size w2 W) ∧ Hid (∀ j, j < k → inR (xs.getD j 0) 0 nI = true)) (fun i _ => m - (intOf i).toNat)
    case atStart => exact ⟨0, Nat.zero_le _, rfl, Lib.hid (Below.refl _ _), Lib.hid (by intro j hj; omega)⟩
    case round =>
      obtain ⟨k, hk, rfl, hbr, hin⟩ := hrel
      have HBR : Hid (Below w.heap.size w wr) := Lib.hid (HB2.out.trans (hbr.out.mono HB2.out.size))
      by_cases hlt : k < m
      · obtain ⟨vb, vo, rfl, hvb, hcs⟩ := HVC.out (ints_ne (by have := HN.out.2; omega))
        obtain ⟨x, hx⟩ : ∃ x, x = xs.getD k 0 := ⟨_, rfl⟩
        have hkl : k < xs.length := by have := HN.out.2; omega
        have HKL := Lib.hid hkl
        have hC : (fun W => W.cell? ⟨q, 0, none⟩ = some (.slice a n ac) ∧ W.cell? ⟨vb, vo + k, none⟩ = some (.int .i64 x)) wr.drew := by
          refine ⟨by simpa using hbr.out.on k0, ?_⟩
          have h1 := hcs k _ (ints_at' xs k hkl)
          rw [← List.getD_eq_getElem?_getD, ← hx] at h1
          have := (HBR.out.cell (p := ⟨vb, vo + k, none⟩) (Nat.lt_of_lt_of_le hvb HRG.out.1)).trans h1
          simpa using this
        obtain ⟨z, hz⟩ : ∃ z, inR x 0 nI = z := ⟨_, rfl⟩
        have HZX := Lib.hid hz
        have HX := Lib.hid hx
        have HB4 : Hid (Below w2.heap.size w2 wr.drew) := Lib.hid (hbr.out.drew)
        have hk64 : k < 1000 := by omega
        clear hz hx hkl hvb hcs k0 k1 k2 k3 k4 HBR
        go_wp2_with fail
        generalize hW0 : wr.drew = w4 at HB4 hC
        refine Lim.regC' (fun W => W.cell? ⟨q, 0, none⟩ = some (.slice a n ac) ∧ W.cell? ⟨vb, vo + k, none⟩ = some (.int .i64 x)) [] #[false, false, false, false, false, false, false, false, false] (by kernel_rfl) rfl ?_
        rw [hW0]; clear hW0
        refine Lim.stepR 0 (fun _ => trivial) rfl (by kernel_rfl) (fun _ _ _ _ h => h) hC rfl ?_; apply Exists.intro; refine ⟨?_, ?_⟩
        · rintro w ⟨r0, r1⟩; go_simp; try with_reducible rfl
        simp only [Act.put, List.setIfInBounds_toArray, List.set_cons_succ, List.set_cons_zero]
        refine Lim.stepR 1 (fun _ => trivial) rfl (by kernel_rfl) (fun _ _ _ _ h => h) hC rfl ?_; apply Exists.intro; refine ⟨?_, ?_⟩
        · rintro w ⟨r0, r1⟩; go_simp; try with_reducible rfl
        simp only [Act.put, List.setIfInBounds_toArray, List.set_cons_succ, List.set_cons_zero]
        refine Lim.stepR 2 (fun _ => trivial) rfl (by kernel_rfl) (fun _ _ _ _ h => h) hC rfl ?_; apply Exists.intro; refine ⟨?_, ?_⟩
        · rintro w ⟨r0, r1⟩; go_simp; try with_reducible rfl
        simp only [Act.put, List.setIfInBounds_toArray, List.set_cons_succ, List.set_cons_zero]
        refine Lim.stepR 3 (fun _ => trivial) rfl (by kernel_rfl) (fun _ _ _ _ h => h) hC rfl ?_; apply Exists.intro; refine ⟨?_, ?_⟩
        · rintro w ⟨r0, r1⟩; go_simp; try with_reducible rfl
        simp only [Act.put, List.setIfInBounds_toArray, List.set_cons_succ, List.set_cons_zero]
        refine Lim.stepR 4 (fun _ => trivial) rfl (by kernel_rfl) (fun _ _ _ _ h => h) hC rfl ?_; apply Exists.intro; refine ⟨?_, ?_⟩
        · rintro w ⟨r0, r1⟩; go_simp; try with_reducible rfl
        simp only [Act.put, List.setIfInBounds_toArray, List.set_cons_succ, List.set_cons_zero]
        refine Lim.stepR 5 (fun _ => trivial) rfl (by kernel_rfl) (fun _ _ _ _ h => h) hC rfl ?_; apply Exists.intro; refine ⟨?_, ?_⟩
        · rintro w ⟨r0, r1⟩; go_simp; try with_reducible rfl
        simp only [Act.put, List.setIfInBounds_toArray, List.set_cons_succ, List.set_cons_zero]
        refine Lim.stepR 6 (fun _ => trivial) rfl (by kernel_rfl) (fun _ _ _ _ h => h) hC rfl ?_; apply Exists.intro; refine ⟨?_, ?_⟩
        · rintro w ⟨r0, r1⟩; go_simp; try with_reducible rfl
        simp only [Act.put, List.setIfInBounds_toArray, List.set_cons_succ, List.set_cons_zero]
        refine Lim.stepR 7 (fun _ => trivial) rfl (by kernel_rfl) (fun _ _ _ _ h => h) hC rfl ?_; apply Exists.intro; refine ⟨?_, ?_⟩
        · rintro w ⟨r0, r1⟩; go_simp; try with_reducible rfl
        simp only [Act.put, List.setIfInBounds_toArray, List.set_cons_succ, List.set_cons_zero]
        refine Lim.stepE 8 (fun _ => trivial) rfl (by kernel_rfl) rfl (fun K hK => ?_)   -- E call
        go_simp
        refine ⟨rfl, (callsIn_wide.2 (outside_any _ _ _ _)).mono ?_⟩
        rintro e w5 ⟨rfl, rfl⟩
        rw [HZX.out]
        refine hK _ _ hC ?_
        simp only [Act.put, List.setIfInBounds_toArray, List.set_cons_succ, List.set_cons_zero]
        refine Lim.stepD (by kernel_rfl) ?_
        clear hC
        have HBW4 : Hid (Below w.heap.size w w4) := Lib.hid (HB2.out.trans (HB4.out.mono HB2.out.size))
        cases z with
        | true =>
          go_wp2
          go_roundw
          case rel =>
            refine ⟨k + 1, by omega, by go_num, HB4, Lib.hid (fun j hj => ?_)⟩
            by_cases e : j = k
            · rw [e, ← HX.out]; exact HZX.out
            · exact hin.out j (by omega)
          case measure => simp [intOf]; omega
        | false =>
          have HA : Hid (holdsAns p xs = .tuple #[.bool false, .int .i64 2]) := Lib.hid (by
            unfold holdsAns
            rw [if_neg (fun h => h HOK.out.1), inAll_not HKL.out (by rw [← HX.out, ← HN.out.1, ← HNI.out]; exact HZX.out)]
            rfl)
          go_wp2
          go_ret2
          exact ⟨by rw [HA.out]; rfl, HBW4.out⟩
      · skip
        obtain ⟨wo, rfl⟩ : ∃ x, x = wr := ⟨_, rfl⟩
        have hkm : m = k := by omega
        subst hkm
        have HAL : Hid (inAll p.n xs = true) := Lib.hid (inAll_to (fun j hj => by rw [← HN.out.1, ← HNI.out]; exact hin.out j (by have := HN.out.2; omega)))
        have HIN : Hid (∀ j, j < xs.length → inR (xs.getD j 0) 0 nI = true) := Lib.hid (fun j hj => hin.out j (by have := HN.out.2; omega))
        have HAN : Hid (holdsAns p xs = .tuple #[.bool (holdsP p xs), .int .i64 0]) := Lib.hid (by unfold holdsAns; rw [if_neg (fun h => h HOK.out.1), if_pos HAL.out])
        have HBW := HBR
        replace k0 := hbr.out.on k0
        replace k1 := hbr.out.on k1
        replace k2 := hbr.out.on k2
        replace k3 := hbr.out.on k3
        replace k4 := hbr.out.on k4
        clear hin HAL
        by_cases hm0 : m = 0
        · have HF : Hid (holdsP p xs = false) := Lib.hid (by unfold holdsP; rw [decide_eq_false (by have := HN.out.2; omega), Bool.false_and])
          have d0 : ((m : Int) == 0) = true := by rw [hm0]; rfl
          go_wp2_with fail
          go_quiet (fail)
          go_wp2
          go_ret2
          exact ⟨by rw [HAN.out, HF.out]; rfl, below_drewN HBW.out _⟩
        · have d0 : ((m : Int) == 0) = false := beq_eq_false_iff_ne.2 (by omega)
          obtain ⟨vb, vo, rfl, hvb, hcs⟩ := HVC.out (ints_ne (by have := HN.out.2; omega))
          obtain ⟨l, hl⟩ : ∃ l, l = m - 1 := ⟨_, rfl⟩
          have hlm : l < m := by omega
          have HX : Hid (∀ W, Below w.heap.size w W → ∀ j, j < m → ∃ y : Nat, xs.getD j 0 = (y : Int) ∧ y < p.n ∧ W.cell? ⟨vb, vo + j, none⟩ = some (.int .i64 (y : Int))) := Lib.hid (fun W hW j hj => by
            have hjl : j < xs.length := by have := HN.out.2; omega
            have h1 := hcs j _ (ints_at' xs j hjl)
            rw [← List.getD_eq_getElem?_getD] at h1
            have h2 := inR_iff.1 (HIN.out j hjl)
            have h3 := HNI.out
            have h4 := HN.out.1
            refine ⟨(xs.getD j 0).toNat, by omega, by omega, ?_⟩
            rw [hW.cell (p := ⟨vb, vo + j, none⟩) (Nat.lt_of_lt_of_le hvb HRG.out.1), h1]
            congr 2
            omega)
          have wm : IntKind.i64.wrap ((m : Int) - 1) = (l : Int) := by rw [show (m : Int) - 1 = (l : Int) by omega]; exact IntWalk.i64_in _ (by omega)
          obtain ⟨y0, hy0, -, cf⟩ := HX.out _ HBW.out 0 (by omega)
          obtain ⟨yl, hyl, -, cl⟩ := HX.out _ HBW.out l hlm
          rw [Nat.add_zero] at cf
          have HHP : Hid (holdsP p xs = (decide (2 ≤ m) && (decide ((y0 : Int) = 0) && (decide ((yl : Int) = nI) && (List.range l).all (stepOk p xs))))) := Lib.hid (by
            unfold holdsP
            rw [hy0, show xs.length - 1 = l by have := HN.out.2; omega, hyl, ← HN.out.2, HNI.out, HN.out.1])
          have HL := Lib.hid hl
          clear hl hvb hcs hy0 hyl HVC
          by_cases e0 : (y0 : Int) = 0
          · have d3 : ((y0 : Int) != 0) = false := by rw [e0]; rfl
            by_cases el : (yl : Int) = nI
            · have d4 : ((yl : Int) != nI) = false := by rw [el]; simp
              have HF : Hid (holdsP p xs = (List.range l).all (stepOk p xs)) := Lib.hid (by
                have h2 : 2 ≤ m := by
                  rcases Nat.lt_or_ge l 1 with h | h
                  · exfalso
                    have h0 : l = 0 := by omega
                    subst h0
                    rw [Nat.add_zero] at cl
                    rw [cf] at cl
                    have e1 : (y0 : Int) = (yl : Int) := by simpa using cl
                    have := HNI.out
                    have := HN40.out
                    omega
                  · omega
                rw [HHP.out, decide_eq_true h2, decide_eq_true e0, decide_eq_true el]; rfl)
              clear e0 el HHP
              go_wp2_with fail
              go_quiet (fail)
              clear cf cl d0 d3 d4 wm
              go_wp2_with fail
              go_loopw [8] (fun i W => ∃ k : Nat, k + 1 ≤ m ∧ i = .int .i64 ((k : Int) + 1) ∧ Hid (Below wo.heap.size wo W) ∧ Hid (∀ j, j < k → stepOk p xs j = true)) (fun i _ => m + 1 - (intOf i).toNat)
              case atStart => exact ⟨0, by omega, rfl, Lib.hid (below_drewN (Below.refl _ _) _), Lib.hid (by intro j hj; omega)⟩
              case round =>
                obtain ⟨k, hk1, rfl, hbs, hst⟩ := hrel
                have HBS : Hid (Below w.heap.size w wr) := Lib.hid (HBW.out.trans (hbs.out.mono HBW.out.size))
                by_cases hlt : k + 1 < m
                · obtain ⟨y0, hy0, hp0, c5⟩ := HX.out wr HBS.out k (by omega)
                  obtain ⟨y1, hy1, hp1, c6⟩ := HX.out wr HBS.out (k + 1) hlt
                  have HST : Hid (stepOk p xs k = (decide ((y0 : Int) < (y1 : Int)) && p.sure y0 y1)) := Lib.hid (by unfold stepOk; rw [hy0, hy1]; rfl)
                  have HSU : Hid (∀ W, Below w.heap.size w W → Calls Try.prog 92 #[.agg #[.slice a n ac, gv, .int .i64 tl, .int .i64 lo, .int .i64 hi], .int .i64 (y0 : Int), .int .i64 (y1 : Int)] W fun e w' => e = .returned (.bool (p.sure y0 y1)) ∧ Below W.heap.size W w') := Lib.hid (fun W hW => HSR.out HOK.out.2 y0 y1 W hW hp0 hp1)
                  have hk64 : k < 1000 := by omega
                  have hkm2 : k < m := by omega
                  have hk01 : (0 : Int) ≤ (k : Int) + 1 := by omega
                  have hwk : IntKind.i64.wrap (k : Int) = (k : Int) := IntWalk.i64_in _ (by omega)
                  have HKL : Hid (k < l) := Lib.hid (by have := HL.out; omega)
                  clear hy0 hy1 hp0 hp1
                  by_cases hle : y1 ≤ y0
                  · have d5 : decide ((y1 : Int) ≤ (y0 : Int)) = true := decide_eq_true (by omega)
                    have HFF : Hid (holdsP p xs = false) := Lib.hid (by
                      rw [HF.out, Bool.eq_false_iff]
                      intro h
                      have := (List.all_eq_true.1 h) k (List.mem_range.2 HKL.out)
                      rw [HST.out, decide_eq_false (by omega), Bool.false_and] at this
                      cases this)
                    go_wp2_with fail
                    go_quiet (fail)
                    go_wp2
                    go_ret2
                    exact ⟨by rw [HAN.out, HFF.out]; rfl, below_drewN HBS.out _⟩
                  · have d5 : decide ((y1 : Int) ≤ (y0 : Int)) = false := decide_eq_false (by omega)
                    have d6 : decide (y1 ≤ y0) = false := decide_eq_false hle
                    have hlt01 : y0 < y1 := by omega
                    have HST2 : Hid (stepOk p xs k = p.sure y0 y1) := Lib.hid (by rw [HST.out, decide_eq_true (by omega), Bool.true_and])
                    have hC : (fun W => (W.cell? ⟨q, 0, none⟩ = some (.slice a n ac) ∧ W.cell? ⟨q, 1, none⟩ = some gv ∧ W.cell? ⟨q, 2, none⟩ = some (.int .i64 tl) ∧ W.cell? ⟨q, 3, none⟩ = some (.int .i64 lo) ∧ W.cell? ⟨q, 4, none⟩ = some (.int .i64 hi)) ∧ W.cell? ⟨vb, vo + k, none⟩ = some (.int .i64 (y0 : Int)) ∧ W.cell? ⟨vb, vo + (k + 1), none⟩ = some (.int .i64 (y1 : Int))) wr.drew := ⟨⟨by simpa using hbs.out.on k0, by simpa using hbs.out.on k1, by simpa using hbs.out.on k2, by simpa using hbs.out.on k3, by simpa using hbs.out.on k4⟩, by simpa using c5, by simpa using c6⟩
                    have HB4 : Hid (Below w.heap.size w wr.drew) := Lib.hid HBS.out.drew
                    have HBX : Hid (Below wo.heap.size wo wr.drew) := Lib.hid hbs.out.drew
                    clear c5 c6 k0 k1 k2 k3 k4 hle HST
                    go_wp2_with fail
                    generalize hW0 : wr.drew = w4 at HB4 HBX hC
                    refine Lim.regC' (fun W => (W.cell? ⟨q, 0, none⟩ = some (.slice a n ac) ∧ W.cell? ⟨q, 1, none⟩ = some gv ∧ W.cell? ⟨q, 2, none⟩ = some (.int .i64 tl) ∧ W.cell? ⟨q, 3, none⟩ = some (.int .i64 lo) ∧ W.cell? ⟨q, 4, none⟩ = some (.int .i64 hi)) ∧ W.cell? ⟨vb, vo + k, none⟩ = some (.int .i64 (y0 : Int)) ∧ W.cell? ⟨vb, vo + (k + 1), none⟩ = some (.int .i64 (y1 : Int))) [] #[false, false, false, false, false, false, false, false, false, false, false, false, false, false, false, false, false, false, false, false, false, false, false, false] (by kernel_rfl) rfl ?_
                    rw [hW0]; clear hW0
                    refine Lim.stepR 0 (fun _ => trivial) rfl (by kernel_rfl) (fun _ _ _ _ h => h) hC rfl ?_; apply Exists.intro; refine ⟨?_, ?_⟩
                    · rintro w ⟨⟨r0, r1, r2, r3, r4⟩, r5, r6⟩; go_simp; try with_reducible rfl
                    simp only [Act.put, List.setIfInBounds_toArray, List.set_cons_succ, List.set_cons_zero]
                    refine Lim.stepR 1 (fun _ => trivial) rfl (by kernel_rfl) (fun _ _ _ _ h => h) hC rfl ?_; apply Exists.intro; refine ⟨?_, ?_⟩
                    · rintro w ⟨⟨r0, r1, r2, r3, r4⟩, r5, r6⟩; go_simp; try with_reducible rfl
                    simp only [Act.put, List.setIfInBounds_toArray, List.set_cons_succ, List.set_cons_zero]
                    refine Lim.stepR 2 (fun _ => trivial) rfl (by kernel_rfl) (fun _ _ _ _ h => h) hC rfl ?_; apply Exists.intro; refine ⟨?_, ?_⟩
                    · rintro w ⟨⟨r0, r1, r2, r3, r4⟩, r5, r6⟩; go_simp; try with_reducible rfl
                    simp only [Act.put, List.setIfInBounds_toArray, List.set_cons_succ, List.set_cons_zero]
                    refine Lim.stepR 3 (fun _ => trivial) rfl (by kernel_rfl) (fun _ _ _ _ h => h) hC rfl ?_; apply Exists.intro; refine ⟨?_, ?_⟩
                    · rintro w ⟨⟨r0, r1, r2, r3, r4⟩, r5, r6⟩; go_simp; try with_reducible rfl
                    simp only [Act.put, List.setIfInBounds_toArray, List.set_cons_succ, List.set_cons_zero]
                    refine Lim.stepR 4 (fun _ => trivial) rfl (by kernel_rfl) (fun _ _ _ _ h => h) hC rfl ?_; apply Exists.intro; refine ⟨?_, ?_⟩
                    · rintro w ⟨⟨r0, r1, r2, r3, r4⟩, r5, r6⟩; go_simp; try with_reducible rfl
                    simp only [Act.put, List.setIfInBounds_toArray, List.set_cons_succ, List.set_cons_zero]
                    refine Lim.stepR 5 (fun _ => trivial) rfl (by kernel_rfl) (fun _ _ _ _ h => h) hC rfl ?_; apply Exists.intro; refine ⟨?_, ?_⟩
                    · rintro w ⟨⟨r0, r1, r2, r3, r4⟩, r5, r6⟩; go_simp; try with_reducible rfl
                    simp only [Act.put, List.setIfInBounds_toArray, List.set_cons_succ, List.set_cons_zero]
                    refine Lim.stepR 6 (fun _ => trivial) rfl (by kernel_rfl) (fun _ _ _ _ h => h) hC rfl ?_; apply Exists.intro; refine ⟨?_, ?_⟩
                    · rintro w ⟨⟨r0, r1, r2, r3, r4⟩, r5, r6⟩; go_simp; try with_reducible rfl
                    simp only [Act.put, List.setIfInBounds_toArray, List.set_cons_succ, List.set_cons_zero]
                    refine Lim.stepR 7 (fun _ => trivial) rfl (by kernel_rfl) (fun _ _ _ _ h => h) hC rfl ?_; apply Exists.intro; refine ⟨?_, ?_⟩
                    · rintro w ⟨⟨r0, r1, r2, r3, r4⟩, r5, r6⟩; go_simp; try with_reducible rfl
                    simp only [Act.put, List.setIfInBounds_toArray, List.set_cons_succ, List.set_cons_zero]
                    refine Lim.stepR 8 (fun _ => trivial) rfl (by kernel_rfl) (fun _ _ _ _ h => h) hC rfl ?_; apply Exists.intro; refine ⟨?_, ?_⟩
                    · rintro w ⟨⟨r0, r1, r2, r3, r4⟩, r5, r6⟩; go_simp; try with_reducible rfl
                    simp only [Act.put, List.setIfInBounds_toArray, List.set_cons_succ, List.set_cons_zero]
                    refine Lim.stepR 9 (fun _ => trivial) rfl (by kernel_rfl) (fun _ _ _ _ h => h) hC rfl ?_; apply Exists.intro; refine ⟨?_, ?_⟩
                    · rintro w ⟨⟨r0, r1, r2, r3, r4⟩, r5, r6⟩; go_simp; try with_reducible rfl
                    simp only [Act.put, List.setIfInBounds_toArray, List.set_cons_succ, List.set_cons_zero]
                    refine Lim.stepR 10 (fun _ => trivial) rfl (by kernel_rfl) (fun _ _ _ _ h => h) hC rfl ?_; apply Exists.intro; refine ⟨?_, ?_⟩
                    · rintro w ⟨⟨r0, r1, r2, r3, r4⟩, r5, r6⟩; go_simp; try with_reducible rfl
                    simp only [Act.put, List.setIfInBounds_toArray, List.set_cons_succ, List.set_cons_zero]
                    refine Lim.stepR 11 (fun _ => trivial) rfl (by kernel_rfl) (fun _ _ _ _ h => h) hC rfl ?_; apply Exists.intro; refine ⟨?_, ?_⟩
                    · rintro w ⟨⟨r0, r1, r2, r3, r4⟩, r5, r6⟩; go_simp; try with_reducible rfl
                    simp only [Act.put, List.setIfInBounds_toArray, List.set_cons_succ, List.set_cons_zero]
                    refine Lim.stepR 12 (fun _ => trivial) rfl (by kernel_rfl) (fun _ _ _ _ h => h) hC rfl ?_; apply Exists.intro; refine ⟨?_, ?_⟩
                    · rintro w ⟨⟨r0, r1, r2, r3, r4⟩, r5, r6⟩; go_simp; try with_reducible rfl
                    simp only [Act.put, List.setIfInBounds_toArray, List.set_cons_succ, List.set_cons_zero]
                    refine Lim.stepR 13 (fun _ => trivial) rfl (by kernel_rfl) (fun _ _ _ _ h => h) hC rfl ?_; apply Exists.intro; refine ⟨?_, ?_⟩
                    · rintro w ⟨⟨r0, r1, r2, r3, r4⟩, r5, r6⟩; go_simp; try with_reducible rfl
                    simp only [Act.put, List.setIfInBounds_toArray, List.set_cons_succ, List.set_cons_zero]
                    refine Lim.stepR 14 (fun _ => trivial) rfl (by kernel_rfl) (fun _ _ _ _ h => h) hC rfl ?_; apply Exists.intro; refine ⟨?_, ?_⟩
                    · rintro w ⟨⟨r0, r1, r2, r3, r4⟩, r5, r6⟩; go_simp; try with_reducible rfl
                    simp only [Act.put, List.setIfInBounds_toArray, List.set_cons_succ, List.set_cons_zero]
                    refine Lim.stepR 15 (fun _ => trivial) rfl (by kernel_rfl) (fun _ _ _ _ h => h) hC rfl ?_; apply Exists.intro; refine ⟨?_, ?_⟩
                    · rintro w ⟨⟨r0, r1, r2, r3, r4⟩, r5, r6⟩; go_simp; try with_reducible rfl
                    simp only [Act.put, List.setIfInBounds_toArray, List.set_cons_succ, List.set_cons_zero]
                    refine Lim.stepR 16 (fun _ => trivial) rfl (by kernel_rfl) (fun _ _ _ _ h => h) hC rfl ?_; apply Exists.intro; refine ⟨?_, ?_⟩
                    · rintro w ⟨⟨r0, r1, r2, r3, r4⟩, r5, r6⟩; go_simp; try with_reducible rfl
                    simp only [Act.put, List.setIfInBounds_toArray, List.set_cons_succ, List.set_cons_zero]
                    refine Lim.stepR 17 (fun _ => trivial) rfl (by kernel_rfl) (fun _ _ _ _ h => h) hC rfl ?_; apply Exists.intro; refine ⟨?_, ?_⟩
                    · rintro w ⟨⟨r0, r1, r2, r3, r4⟩, r5, r6⟩; go_simp; try with_reducible rfl
                    simp only [Act.put, List.setIfInBounds_toArray, List.set_cons_succ, List.set_cons_zero]
                    refine Lim.stepR 18 (fun _ => trivial) rfl (by kernel_rfl) (fun _ _ _ _ h => h) hC rfl ?_; apply Exists.intro; refine ⟨?_, ?_⟩
                    · rintro w ⟨⟨r0, r1, r2, r3, r4⟩, r5, r6⟩; go_simp; try with_reducible rfl
                    simp only [Act.put, List.setIfInBounds_toArray, List.set_cons_succ, List.set_cons_zero]
                    refine Lim.stepR 19 (fun _ => trivial) rfl (by kernel_rfl) (fun _ _ _ _ h => h) hC rfl ?_; apply Exists.intro; refine ⟨?_, ?_⟩
                    · rintro w ⟨⟨r0, r1, r2, r3, r4⟩, r5, r6⟩; go_simp; try with_reducible rfl
                    simp only [Act.put, List.setIfInBounds_toArray, List.set_cons_succ, List.set_cons_zero]
                    refine Lim.stepR 20 (fun _ => trivial) rfl (by kernel_rfl) (fun _ _ _ _ h => h) hC rfl ?_; apply Exists.intro; refine ⟨?_, ?_⟩
                    · rintro w ⟨⟨r0, r1, r2, r3, r4⟩, r5, r6⟩; go_simp; try with_reducible rfl
                    simp only [Act.put, List.setIfInBounds_toArray, List.set_cons_succ, List.set_cons_zero]
                    refine Lim.stepE 21 (fun _ => trivial) rfl (by kernel_rfl) rfl (fun K hK => ?_)   -- E call
                    go_simp
                    refine ⟨rfl, (callsIn_wide.2 (HSU.out _ HB4.out)).mono ?_⟩
                    rintro e w5 ⟨rfl, hb5⟩
                    have hC5 : (fun W => (W.cell? ⟨q, 0, none⟩ = some (.slice a n ac) ∧ W.cell? ⟨q, 1, none⟩ = some gv ∧ W.cell? ⟨q, 2, none⟩ = some (.int .i64 tl) ∧ W.cell? ⟨q, 3, none⟩ = some (.int .i64 lo) ∧ W.cell? ⟨q, 4, none⟩ = some (.int .i64 hi)) ∧ W.cell? ⟨vb, vo + k, none⟩ = some (.int .i64 (y0 : Int)) ∧ W.cell? ⟨vb, vo + (k + 1), none⟩ = some (.int .i64 (y1 : Int))) w5 := ⟨⟨hb5.on hC.1.1, hb5.on hC.1.2.1, hb5.on hC.1.2.2.1, hb5.on hC.1.2.2.2.1, hb5.on hC.1.2.2.2.2⟩, hb5.on hC.2.1, hb5.on hC.2.2⟩
                    have HB5 : Hid (Below w.heap.size w w5) := Lib.hid (HB4.out.trans (hb5.mono HB4.out.size))
                    have HBX5 : Hid (Below wo.heap.size wo w5) := Lib.hid (HBX.out.trans (hb5.mono HBX.out.size))
                    clear hb5
                    refine hK _ _ hC5 ?_
                    simp only [Act.put, List.setIfInBounds_toArray, List.set_cons_succ, List.set_cons_zero]
                    refine Lim.stepR 22 (fun _ => trivial) rfl (by kernel_rfl) (fun _ _ _ _ h => h) hC5 rfl ?_; apply Exists.intro; refine ⟨?_, ?_⟩
                    · rintro w ⟨⟨r0, r1, r2, r3, r4⟩, r5, r6⟩; go_simp; try with_reducible rfl
                    simp only [Act.put, List.setIfInBounds_toArray, List.set_cons_succ, List.set_cons_zero]
                    refine Lim.stepR 23 (fun _ => trivial) rfl (by kernel_rfl) (fun _ _ _ _ h => h) hC5 rfl ?_; apply Exists.intro; refine ⟨?_, ?_⟩
                    · rintro w ⟨⟨r0, r1, r2, r3, r4⟩, r5, r6⟩; go_simp; try with_reducible rfl
                    simp only [Act.put, List.setIfInBounds_toArray, List.set_cons_succ, List.set_cons_zero]
                    refine Lim.stepD (by kernel_rfl) ?_
                    obtain ⟨sv, hsv⟩ : ∃ s, s = p.sure y0 y1 := ⟨_, rfl⟩
                    have HSV : Hid (stepOk p xs k = sv) := Lib.hid (by rw [HST2.out, hsv])
                    rw [← hsv]
                    clear hsv hC5
                    cases sv with
                    | true =>
                      go_wp2
                      go_roundw
                      case rel =>
                        refine ⟨k + 1, by omega, by go_num, HBX5, Lib.hid (fun j hj => ?_)⟩
                        by_cases e : j = k
                        · rw [e]; exact HSV.out
                        · exact hst.out j (by omega)
                      case measure => simp [intOf]; omega
                    | false =>
                      have HFF : Hid (holdsP p xs = false) := Lib.hid (by
                        rw [HF.out, Bool.eq_false_iff]
                        intro h
                        have := (List.all_eq_true.1 h) k (List.mem_range.2 HKL.out)
                        rw [HSV.out] at this
                        cases this)
                      go_wp2
                      go_ret2
                      exact ⟨by rw [HAN.out, HFF.out]; rfl, HB5.out⟩
                · have HFF : Hid (holdsP p xs = true) := Lib.hid (by
                    rw [HF.out, List.all_eq_true]
                    intro j hj
                    exact hst.out j (by have := List.mem_range.1 hj; have := HL.out; omega))
                  clear k0 k1 k2 k3 k4
                  go_wp2
                  go_ret2
                  exact ⟨by rw [HAN.out, HFF.out]; rfl, HBS.out⟩
            · have d4 : ((yl : Int) != nI) = true := by rw [bne_iff_ne]; exact el
              have HF : Hid (holdsP p xs = false) := Lib.hid (by rw [HHP.out, decide_eq_false el, Bool.false_and, Bool.and_false, Bool.and_false])
              go_wp2_with fail
              go_quiet (fail)
              go_wp2
              go_ret2
              exact ⟨by rw [HAN.out, HF.out]; rfl, below_drewN HBW.out _⟩
          · have d3 : ((y0 : Int) != 0) = true := by rw [bne_iff_ne]; exact e0
            have HF : Hid (holdsP p xs = false) := Lib.hid (by rw [HHP.out, decide_eq_false e0, Bool.false_and, Bool.and_false])
            go_wp2_with fail
            go_quiet (fail)
            go_wp2
            go_ret2
            exact ⟨by rw [HAN.out, HF.out]; rfl, below_drewN HBW.out _⟩
  · have d1 : (er != 0) = true := by rw [bne_iff_ne]; exact he
    have HA : Hid (holdsAns p xs = .tuple #[.bool false, .int .i64 er]) := Lib.hid (by unfold holdsAns; rw [if_pos (by rw [← HER.out]; exact he), HER.out])
    clear k0 k1 k2 k3 k4 her he
    go_wp2
    go_ret2
    exact ⟨by rw [HA.out]; rfl, HB2.out⟩
end Go.Proofs.Ytobmhamdkngehaa
