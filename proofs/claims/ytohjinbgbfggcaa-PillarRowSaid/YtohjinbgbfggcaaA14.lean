/-
  Parts of the proof, in the order in which they build: QiC.
-/
import Derived.Test.YtohjinbgbfggcaaA11
import Derived.Test.YtohjinbgbfggcaaC1
set_option linter.unusedVariables false
set_option linter.unusedSimpArgs false
namespace Go.Proofs.Ytohjinbgbfggcaa
open Go.RowKit Go.Shelf
open Lim

/-- what Tall answers -/
def tallAns (p : Pf) (i j : Int) : Value :=
  if p.err ≠ 0 then .tuple #[.int .i64 0, .int .i64 p.err]
  else if twoS p.n i j = true then
    if 2000 < tallTo p (min i.toNat j.toNat) (max i.toNat j.toNat) (max i.toNat j.toNat - min i.toNat j.toNat - 1) then .tuple #[.int .i64 0, .int .i64 11]
    else .tuple #[.int .i64 (tallTo p (min i.toNat j.toNat) (max i.toNat j.toNat) (max i.toNat j.toNat - min i.toNat j.toNat - 1)), .int .i64 0]
  else .tuple #[.int .i64 0, .int .i64 2]
theorem short_up {p : Pf} (h : p.Ok) {i j k : Nat} (hik : i < k) (hkj : k < j) (hj : j < p.n) : p.short false true i j k ≤ 300000000000000000 := by
  have A1 := h.lt hik (by omega : k < p.n)
  have A2 := h.lt hkj (by omega : j < p.n)
  have A3 := h.ats i (by omega)
  have A4 := h.ats j (by omega)
  have G1 := h.gr i (by omega)
  have G2 := h.gr j (by omega)
  have G3 := h.gr k (by omega)
  have T1 := h.tall
  have B1 := h.bend
  unfold Pf.short endOf Pf.bend
  simp only [Bool.false_eq_true, if_false, if_true]
  have m1 := mul_bd (x := (p.g i).1 + p.tall) (y := p.a j - p.a k) (a := 1002000) (b := 20000) (by omega) (by omega) (by omega) (by omega)
  have m2 := mul_bd (x := (p.g j).1 + p.tall) (y := p.a k - p.a i) (a := 1002000) (b := 20000) (by omega) (by omega) (by omega) (by omega)
  have u2 := mul_bd (x := p.hi) (y := p.a k - p.a i) (a := 1000) (b := 20000) (by omega) (by omega) (by omega) (by omega)
  have u3 := mul_bd (x := p.hi * (p.a k - p.a i)) (y := p.a j - p.a k) (a := 1000 * 20000) (b := 20000) u2.1 u2.2 (by omega) (by omega)
  have u5 := mul_bd (x := (p.g k).2 * 10000000 + p.hi * (p.a k - p.a i) * (p.a j - p.a k)) (y := (p.a k - p.a i) + (p.a j - p.a k)) (a := 1000000 * 10000000 + 1000 * 20000 * 20000) (b := 20000) (by omega) (by omega) (by omega) (by omega)
  omega
/-- what Tall keeps -/
structure TaM (w : World) (q b n ac gc ab ao gb go : Nat) (p : Pf) (W : World) : Prop where
  be : Below w.heap.size w W
  c : PfC W b (p.at 0) (.slice (some ⟨ab, ao, none⟩) n ac) (.slice (some ⟨gb, go, none⟩) n gc)
  l : PfL w.heap.size W (p.at 0) ab ao ac gb go gc
  k : W.cell? ⟨q, 0, none⟩ = some (.slice (some ⟨ab, ao, none⟩) n ac)
theorem TaM.grow {w : World} {q b n ac gc ab ao gb go : Nat} {p : Pf} {W W' : World} (H : TaM w q b n ac gc ab ao gb go p W) (hb : Below W.heap.size W W') : TaM w q b n ac gc ab ao gb go p W' :=
  ⟨H.be.trans (hb.mono H.be.size), H.c.grow hb, H.l.grow (hb.mono H.be.size), hb.on H.k⟩
theorem Pf.Ok.at {p : Pf} (h : p.Ok) : (p.at 0).Ok := ⟨h.n2, h.n40, h.gn, h.ats, h.gr, by show (0 : Int) ≤ 0 ∧ (0 : Int) ≤ 2000; omega, h.bend, h.up⟩
set_option maxRecDepth 20000 in
set_option maxHeartbeats 2000000 in
theorem Tall_any {B : Nat} {p : Pf} {av gv : Value} {i j : Int} {w : World} (hB : B ≤ w.heap.size) (ha : RS B w av p.ats.length (ints p.ats)) (hg : RS B w gv p.gr.length (spans p.gr)) :
    Calls Try.prog 31 #[.agg #[av, gv, .int .i64 p.tall, .int .i64 p.lo, .int .i64 p.hi], .int .i64 i, .int .i64 j] w fun e w' => e = .returned (tallAns p i j) ∧ Below w.heap.size w w' := by
  have HR := Lib.hid (And.intro hB (And.intro ha hg))
  obtain ⟨tl, htl⟩ : ∃ x, x = p.tall := ⟨_, rfl⟩
  obtain ⟨lo, hlo⟩ : ∃ x, x = p.lo := ⟨_, rfl⟩
  obtain ⟨hi, hhi⟩ : ∃ x, x = p.hi := ⟨_, rfl⟩
  have HCK : Hid (∀ W, Below w.heap.size w W → Calls Try.prog 24 #[.agg #[av, gv, .int .i64 tl, .int .i64 lo, .int .i64 hi]] W fun e w' => e = .returned (.int .i64 p.err) ∧ Below W.heap.size W w') := Lib.hid fun W hW => by
    rw [htl, hlo, hhi]
    exact Check_any (Nat.le_trans hB hW.size) (ha.below (hW.mono hB)) (hg.below (hW.mono hB))
  rw [← htl, ← hlo, ← hhi]
  have HT := Lib.hid (And.intro htl (And.intro hlo hhi))
  have HM : Hid (Below w.heap.size w (w.alloc (.cells #[av, gv, .int .i64 tl, .int .i64 lo, .int .i64 hi] 30)) ∧ (w.alloc (.cells #[av, gv, .int .i64 tl, .int .i64 lo, .int .i64 hi] 30)).heap[w.heap.size]? = some (.cells #[av, gv, .int .i64 tl, .int .i64 lo, .int .i64 hi] 30 (0, 0))) := Lib.hid ⟨(Below.refl _ w).alloc (Nat.le_refl _) _, heap_alloc_newP w _⟩
  clear hB htl hlo hhi ha hg
  obtain ⟨sa, hsa⟩ : ∃ x, x = tallAns p i j := ⟨_, rfl⟩
  have HSA := Lib.hid hsa
  rw [← hsa]
  obtain ⟨er, her⟩ : ∃ x, x = p.err := ⟨_, rfl⟩
  rw [← her] at HCK
  have HER := Lib.hid her
  clear hsa her
  go_enter Try.func31, Try.ntmps31
  go_upto_region 1 with (fail)
  obtain ⟨q, hq⟩ : ∃ q, q = w.heap.size := ⟨_, rfl⟩
  have HQ := Lib.hid hq.symm
  rw [← hq] at HM
  simp only [← hq]
  clear hq
  generalize w.alloc (.cells #[av, gv, .int .i64 tl, .int .i64 lo, .int .i64 hi] 30) = w1 at HM ⊢
  obtain ⟨⟨k0, k1, k2, k3, k4⟩, -⟩ := five_cells HM.out.2
  have HW1 : Hid (Below w.heap.size w w1) := Lib.hid (by rw [HQ.out]; exact HM.out.1)
  go_wp2_with fail
  refine (HCK.out _ HW1.out).mono ?_
  rintro e w2 ⟨rfl, hb2⟩
  have hk0 := hb2.on k0
  have hk1 := hb2.on k1
  have hk2 := hb2.on k2
  have hk3 := hb2.on k3
  have hk4 := hb2.on k4
  clear k0 k1 k2 k3 k4
  have HB2 : Hid (Below w.heap.size w w2) := Lib.hid (HW1.out.trans (hb2.mono HW1.out.size))
  clear hb2
  by_cases he : er = 0
  · have HP : Hid p.Ok := Lib.hid (err_ok (by rw [← HER.out]; exact he))
    obtain ⟨ab, ao, ac, gb, go, gc, rfl, rfl, hl⟩ := pf_lists HP.out HR.out.2.1 HR.out.2.2
    have HL := Lib.hid hl
    obtain ⟨n, hn⟩ : ∃ x, x = p.n := ⟨_, rfl⟩
    rw [← hn] at hk0 hk1 ⊢
    have HN : Hid (n = p.n) := Lib.hid hn
    have n40 : n ≤ 40 := by rw [hn]; exact HP.out.n40
    have d1 : (er != 0) = false := by simp [he]
    clear hn hl
    go_wp2_with fail
    refine (two_any n40).mono ?_
    rintro e w3 ⟨rfl, hb3⟩
    have HB3 : Hid (Below w.heap.size w w3) := Lib.hid (HB2.out.trans (hb3.mono HB2.out.size))
    cases h2 : twoS n i j with
    | false =>
      have HE : Hid (sa = .tuple #[.int .i64 0, .int .i64 2]) := Lib.hid (by rw [HSA.out, tallAns, if_neg (by rw [← HER.out]; simp [he]), if_neg (by rw [← HN.out, h2]; simp)])
      clear hb3 hk0 hk1 hk2 hk3 hk4
      go_wp2
      go_ret2
      exact ⟨by rw [HE.out]; rfl, HB3.out⟩
    | true =>
      obtain ⟨x, y, rfl, rfl, hx, hy, hxy⟩ := twoS_nat h2
      obtain ⟨l0, hl0⟩ : ∃ z, z = min x y := ⟨_, rfl⟩
      obtain ⟨up, hup⟩ : ∃ z, z = max x y := ⟨_, rfl⟩
      have e1 : (if y < x then (y : Int) else (x : Int)) = (l0 : Int) := by split <;> omega
      have e2 : (if x < y then (y : Int) else (x : Int)) = (up : Int) := by split <;> omega
      obtain ⟨T, hT⟩ : ∃ z, z = tallTo p l0 up (up - l0 - 1) := ⟨_, rfl⟩
      have HE : Hid (sa = if 2000 < T then .tuple #[.int .i64 0, .int .i64 11] else .tuple #[.int .i64 T, .int .i64 0]) := Lib.hid (by
        rw [HSA.out, tallAns, if_neg (by rw [← HER.out]; simp [he]), if_pos (by rw [← HN.out, h2])]
        simp only [Int.toNat_natCast]
        rw [← hl0, ← hup, ← hT])
      have HTT := Lib.hid hT
      have HLU : Hid (l0 < up ∧ up < n) := Lib.hid (by omega)
      have hk0' := hb3.on hk0
      have hk1' := hb3.on hk1
      have hk2' := hb3.on hk2
      have hk3' := hb3.on hk3
      have hk4' := hb3.on hk4
      clear hT hl0 hup hx hy hxy h2 hb3 hk0 hk1 hk2 hk3 hk4
      go_upto_region 8 with (fail)
      simp only [workChain]
      have HWN := Lib.hid (work_newP (w := w3) (p := p) (av := .slice (some ⟨ab, ao, none⟩) n ac) (gv := .slice (some ⟨gb, go, none⟩) n gc)).1
      rw [← HT.out.1, ← HT.out.2.1, ← HT.out.2.2] at HWN
      generalize hwc : workCells (.slice (some ⟨ab, ao, none⟩) n ac) (.slice (some ⟨gb, go, none⟩) n gc) (.int .i64 tl) (.int .i64 lo) (.int .i64 hi) = wc at HWN ⊢
      clear hwc
      have hbn : Below w3.heap.size w3 (w3.alloc (.cells wc 70)) := (Below.refl _ w3).alloc (Nat.le_refl _) _
      have HB4 : Hid (Below w.heap.size w (w3.alloc (.cells wc 70)) ∧ w.heap.size ≤ w3.heap.size ∧ q < w3.heap.size) := Lib.hid ⟨HB3.out.trans (hbn.mono HB3.out.size), HB3.out.size, World.block_lt_of_cell? _ _ hk0'⟩
      have hq0 := hbn.on hk0'
      have hfz : (w3.alloc (.cells wc 70)).frozen? ⟨w3.heap.size, 2, none⟩ = false := World.frozen?_alloc_new ..
      clear hbn hk0' hk1' hk2' hk3' hk4'
      obtain ⟨b, hb⟩ : ∃ z, z = w3.heap.size := ⟨_, rfl⟩
      rw [← hb] at HWN HB4 hfz
      simp only [← hb]
      generalize w3.alloc (.cells wc 70) = w4 at HWN HB4 hq0 hfz ⊢
      clear hb
      have hc2 := HWN.out.c2
      rw [← HT.out.1] at hc2
      have HM4 : Hid (TaM w q b n ac gc ab ao gb go p (w4.setCell ⟨b, 2, none⟩ (.int .i64 0))) := Lib.hid (by
        have off : ∀ (o : Nat) (u : Value), o ≠ 2 → w4.cell? ⟨b, o, none⟩ = some u → (w4.setCell ⟨b, 2, none⟩ (.int .i64 0)).cell? ⟨b, o, none⟩ = some u := fun o u h1 h => by
          rw [World.cell?_setCell_other w4 _ _ _ (fun e2 => h1 (congrArg Addr.off e2).symm)]; exact h
        have hb : Below w.heap.size w (w4.setCell ⟨b, 2, none⟩ (.int .i64 0)) := HB4.out.1.setCell (p := ⟨b, 2, none⟩) HB4.out.2.1 _
        refine ⟨hb, ⟨off _ _ (by omega) HWN.out.c0, off _ _ (by omega) HWN.out.c1, World.cell?_setCell_same' _ _ _ (by rw [hc2]; rfl), off _ _ (by omega) HWN.out.c3, off _ _ (by omega) HWN.out.c4⟩, PfL.grow (p := p.at 0) (have h := HL.out.mono HR.out.1; ⟨h.lab, h.lgb, h.ca, h.cg⟩) hb, ?_⟩
        have := HB4.out.2.2
        rw [setCell_farP _ _ (by omega)]
        exact hq0)
      have hl40 : l0 + 1 < 100 := by have := HLU.out; omega
      go_wp2_with fail
      generalize w4.setCell ⟨b, 2, none⟩ (.int .i64 0) = w5 at HM4 ⊢
      clear hc2 hfz hq0 HWN HB4
      go_loopw [10, 11] (fun nd kv wr => ∃ m k : Nat, k = l0 + 1 + m ∧ k ≤ up ∧ nd = .int .i64 (tallTo p l0 up m) ∧ kv = .int .i64 (k : Int) ∧ Hid (TaM w q b n ac gc ab ao gb go p wr)) (fun _ kv _ => up - (intOf kv).toNat)
      case atStart => exact ⟨0, l0 + 1, rfl, by have := HLU.out; omega, rfl, by go_num, HM4⟩
      case round =>
        obtain ⟨m, k, hkm, hku, rfl, rfl, hT⟩ := hrel
        by_cases hlt : k < up
        · obtain ⟨s, hs⟩ : ∃ s, s = (p.at 0).short false true l0 up k := ⟨_, rfl⟩
          have HSH : Hid (∀ W, TaM w q b n ac gc ab ao gb go p W → Calls Try.prog 45 #[.pointer (some ⟨b, 0, none⟩), .int .i64 l0, .int .i64 up, .int .i64 k, .agg #[.func (.func 47) #[] #[], .func (.func 46) #[] #[]]] W fun e w' => e = .returned (.int .i64 s) ∧ Below W.heap.size W w') := Lib.hid fun W h => by
            rw [hs]
            exact short_worst (i := l0) (j := up) (k := k) HP.out.at HN.out (by omega) hlt HLU.out.2 h.c (h.l.mono h.be.size)
          have HSS := Lib.hid (And.intro hs hkm)
          clear hs hkm
          go_wp2_with fail
          refine (worst_any _).mono ?_
          rintro e w6 ⟨rfl, hb6⟩
          have hT6 := Lib.hid (hT.out.grow hb6)
          clear hb6 hT
          go_wp2_with fail
          refine (HSH.out _ hT6.out).mono ?_
          rintro e w7 ⟨rfl, hb7⟩
          have hT7 := Lib.hid (hT6.out.grow hb7)
          clear hb7 hT6 HSH
          obtain ⟨nd, hnd⟩ : ∃ z, z = tallTo p l0 up m := ⟨_, rfl⟩
          rw [← hnd]
          have HND := Lib.hid hnd
          clear hnd
          by_cases hs0 : 0 ≤ s
          · have hkq := hT7.out.k
            obtain ⟨xu, hxu⟩ : ∃ z, z = p.a up := ⟨_, rfl⟩
            obtain ⟨xl, hxl⟩ : ∃ z, z = p.a l0 := ⟨_, rfl⟩
            have cu := hT7.out.l.ca up (show up < p.n by have := HN.out; have := HLU.out; omega)
            have cl := hT7.out.l.ca l0 (show l0 < p.n by have := HN.out; have := HLU.out; omega)
            rw [show (p.at 0).a up = xu from hxu.symm] at cu
            rw [show (p.at 0).a l0 = xl from hxl.symm] at cl
            have b1 := HP.out.ats up (by have := HN.out; have := HLU.out; omega)
            have b2 := HP.out.ats l0 (by have := HN.out; have := HLU.out; omega)
            have b3 := HP.out.lt HLU.out.1 (by have := HN.out; have := HLU.out; omega)
            rw [← hxu] at b1 b3
            rw [← hxl] at b2 b3
            obtain ⟨D, hD⟩ : ∃ z, z = (xu - xl) * 10000000 := ⟨_, rfl⟩
            obtain ⟨D0, hD0⟩ : ∃ z, z = xu - xl := ⟨_, rfl⟩
            have w1e : IntKind.i64.wrap (xu - xl) = D0 := by rw [hD0]; exact IntWalk.i64_in _ (by omega)
            have w2e : IntKind.i64.wrap (D0 * 10000000) = D := by rw [hD, hD0]; exact IntWalk.i64_in _ (by omega)
            have hDp : ¬ D = 0 := by omega
            have hsu : s ≤ 300000000000000000 := by rw [HSS.out.1]; exact short_up HP.out.at (by have := HSS.out.2; omega) hlt (by have := HN.out; have := HLU.out; show up < p.n; omega)
            have hq0 : 0 ≤ s / D := Int.ediv_nonneg hs0 (by omega)
            have hq1 : s / D ≤ s := Int.ediv_le_self _ hs0
            obtain ⟨qd, hqd⟩ : ∃ z, z = s / D := ⟨_, rfl⟩
            have w3e : s.tdiv D = qd := by rw [hqd]; exact Int.tdiv_eq_ediv_of_nonneg hs0
            rw [← hqd] at hq0 hq1
            have w4e : IntKind.i64.wrap qd = qd := IntWalk.i64_in _ (by omega)
            obtain ⟨q1, hq1e⟩ : ∃ z, z = qd + 1 := ⟨_, rfl⟩
            have w5e : IntKind.i64.wrap (qd + 1) = q1 := by rw [hq1e]; exact IntWalk.i64_in _ (by omega)
            obtain ⟨nx, hnx⟩ : ∃ z, z = if nd < q1 then q1 else nd := ⟨_, rfl⟩
            have HNX : Hid (tallTo p l0 up (m + 1) = nx) := Lib.hid (by
              rw [tallTo, tallStep, ← HSS.out.2, ← HSS.out.1, if_pos hs0, ← HND.out, hnx, hq1e, hqd, hD, hxu, hxl]
              omega)
            have g1 : decide (0 ≤ s) = true := decide_eq_true hs0
            have hiu : up < n := HLU.out.2
            have hil : l0 < n := by have := HLU.out; omega
            have hnxe := hnx.symm
            clear hxu hxl hD hD0 hqd hq1e hnx b1 b2 b3 hq0 hq1 hsu
            go_wp2_with fail
            go_quiet (fail)
            have hk64 : k + 1 < 100 := by omega
            have hT8 := Lib.hid (hT7.out.grow (below_drewN (Below.refl w7.heap.size w7) nq))
            clear w1e w2e w3e w4e w5e hnxe
            go_wp2
            go_roundw
            case rel => exact ⟨m + 1, k + 1, by have := HSS.out.2; omega, by omega, by rw [HNX.out], by go_num, hT8⟩
            case measure => simp [intOf]; omega
          · have g1 : decide (0 ≤ s) = false := decide_eq_false hs0
            have hk64 : k + 1 < 100 := by have := HLU.out; omega
            go_wp2
            go_roundw
            case rel => exact ⟨m + 1, k + 1, by have := HSS.out.2; omega, by omega, by rw [tallTo, tallStep, ← HSS.out.2, ← HSS.out.1, if_neg (by omega), HND.out], by go_num, hT7⟩
            case measure => simp [intOf]; omega
        · have hk2 : k = up := by omega
          have HTM : Hid (tallTo p l0 up m = T) := Lib.hid (by rw [HTT.out, show up - l0 - 1 = m by omega])
          obtain ⟨nd, hnd⟩ : ∃ z, z = tallTo p l0 up m := ⟨_, rfl⟩
          rw [← hnd] at HTM ⊢
          clear hnd
          by_cases hbig : 2000 < nd
          · have HE2 : Hid (sa = .tuple #[.int .i64 0, .int .i64 11]) := Lib.hid (by rw [HE.out, if_pos (by rw [← HTM.out]; exact hbig)])
            have g1 : decide (2000 < nd) = true := decide_eq_true hbig
            go_wp2
            go_ret2
            exact ⟨by rw [HE2.out]; rfl, hT.out.be⟩
          · have HE2 : Hid (sa = .tuple #[.int .i64 nd, .int .i64 0]) := Lib.hid (by rw [HE.out, if_neg (by rw [← HTM.out]; exact hbig), HTM.out])
            have g1 : decide (2000 < nd) = false := decide_eq_false hbig
            go_wp2
            go_ret2
            exact ⟨by rw [HE2.out]; rfl, hT.out.be⟩
  · have HE : Hid (sa = .tuple #[.int .i64 0, .int .i64 er]) := Lib.hid (by rw [HSA.out, tallAns, if_pos (by rw [← HER.out]; exact he), ← HER.out])
    have d1 : (er != 0) = true := by simp [he]
    clear he
    go_wp2
    go_ret2
    exact ⟨by rw [HE.out]; rfl, HB2.out⟩
end Go.Proofs.Ytohjinbgbfggcaa
