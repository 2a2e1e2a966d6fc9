/-
  Parts of the proof, in the order in which they build: Crosses, Eq, LawRow, Closed.
-/
import Derived.Test.YtdgibmgifgdpbaaG14
import Derived.Test.YtdgibmgifgdpbaaG10
import Derived.Test.YtdgibmgifgdpbaaG8
import Derived.Test.YtdgibmgifgdpbaaG12
set_option linter.unusedVariables false
set_option linter.unusedSimpArgs false
/-
  The heights of a crossing: the contract of ridge's function Crosses.
-/
namespace Go.Proofs.Ytdgibmgifgdpbaa
open Go.RowKit Go.Shelf
open Lim

/-- whether cells are a crossing -/
def isCross (g : Gd) (xs : List Int) : Prop :=
  0 < xs.length ∧ atB g (xs.getD 0 0).toNat 1 = true ∧ atB g (xs.getD (xs.length - 1) 0).toNat 2 = true ∧ ∀ j, j + 1 < xs.length → xs.getD j 0 ∈ nbrL g.wd g.ss.length (xs.getD (j + 1) 0).toNat
def losOf (hs : List (Int × Int)) (xs : List Int) : List Int := xs.map fun c => (hs.getD c.toNat (0, 0)).1
def hisOf (hs : List (Int × Int)) (xs : List Int) : List Int := xs.map fun c => (hs.getD c.toNat (0, 0)).2
/-- what Crosses answers -/
def CrossAns (wd : Int) (hs : List (Int × Int)) (ss xs : List Int) (x y er : Int) : Prop :=
  (landErr wd hs ss xs ≠ 0 ∧ x = 0 ∧ y = 0 ∧ er = landErr wd hs ss xs) ∨ (landErr wd hs ss xs = 0 ∧ ¬ isCross ⟨wd.toNat, hs, ss⟩ xs ∧ x = 0 ∧ y = 0 ∧ er = 9) ∨
  (landErr wd hs ss xs = 0 ∧ isCross ⟨wd.toNat, hs, ss⟩ xs ∧ x = maxL (losOf hs xs) 0 ∧ y = maxL (hisOf hs xs) 0 ∧ er = 0)
theorem los_snoc (hs : List (Int × Int)) (xs : List Int) {k : Nat} (hk : k < xs.length) : maxL (losOf hs (xs.take (k + 1))) 0 = max (maxL (losOf hs (xs.take k)) 0) (hs.getD (xs.getD k 0).toNat (0, 0)).1 := by
  unfold losOf
  rw [List.take_succ_eq_append_getElem hk, List.map_append, List.map_singleton, maxL_snoc, List.getD_eq_getElem?_getD (l := xs), List.getElem?_eq_getElem hk]; rfl
theorem his_snoc (hs : List (Int × Int)) (xs : List Int) {k : Nat} (hk : k < xs.length) : maxL (hisOf hs (xs.take (k + 1))) 0 = max (maxL (hisOf hs (xs.take k)) 0) (hs.getD (xs.getD k 0).toNat (0, 0)).2 := by
  unfold hisOf
  rw [List.take_succ_eq_append_getElem hk, List.map_append, List.map_singleton, maxL_snoc, List.getD_eq_getElem?_getD (l := xs), List.getElem?_eq_getElem hk]; rfl
theorem nbr_len (wd N c : Nat) : (nbrL wd N c).length ≤ 100000 := by
  unfold nbrL nbrK nA nB nC nD
  simp only [List.length_append]
  split <;> split <;> split <;> split <;> simp
theorem land_cells {wd : Int} {hs : List (Int × Int)} {ss xs : List Int} (h : landErr wd hs ss xs = 0) : ∀ k, k < xs.length → ∃ c : Nat, xs.getD k 0 = c ∧ c < hs.length := fun k hk => by
  have h1 := (landErr_good h).2 (xs.getD k 0) (by rw [List.getD_eq_getElem?_getD, List.getElem?_eq_getElem hk]; exact List.getElem_mem _)
  unfold offLand at h1
  simp only [Bool.or_eq_false_iff, Bool.not_eq_false'] at h1
  have h2 := inB_iff.1 h1.1
  exact ⟨(xs.getD k 0).toNat, by omega, by omega⟩

set_option maxRecDepth 100000 in
set_option maxHeartbeats 4000000 in
theorem Crosses_any {B : Nat} {wd : Int} {hv sv cv : Value} {hs : List (Int × Int)} {ss xs : List Int} {w : World} (hn : xs.length ≤ 1000) (hB : B ≤ w.heap.size) (hh : RS B w hv hs.length (spans hs)) (hss : RS B w sv ss.length (ints ss)) (hxs : RS B w cv xs.length (ints xs)) :
    Calls Try.prog 45 #[.agg #[.int .i64 wd, hv, sv], cv] w fun e w' => ∃ x y er, e = .returned (.tuple #[.agg #[.int .i64 x, .int .i64 y], .int .i64 er]) ∧ Below w.heap.size w w' ∧ CrossAns wd hs ss xs x y er := by
  have B1 : Below w.heap.size w ((w.alloc (.cells #[.int .i64 wd, hv, sv] 25)).alloc (.cells #[.int .i64 0, .int .i64 0] 54)) := ((Below.refl _ w).alloc (Nat.le_refl _) _).alloc (by simp) _
  have CO := Lib.hid (land_any (B := B) (wd := wd) (Nat.le_trans hn (by decide)) (by simp; omega) (hh.below (B1.mono hB)) (hss.below (B1.mono hB)) (hxs.below (B1.mono hB)))
  have HR := Lib.hid (And.intro hh (And.intro hss hxs))
  obtain ⟨ha, hcap, rfl, hhc⟩ := hh
  obtain ⟨sa, scap, rfl, -⟩ := hss
  obtain ⟨ca, ccap, rfl, hcc⟩ := hxs
  have HCC := Lib.hid (And.intro hcc hhc)
  clear hcc hhc
  obtain ⟨nn, hnn⟩ : ∃ nn, nn = xs.length := ⟨_, rfl⟩
  rw [← hnn] at CO hn ⊢
  have HNN := Lib.hid hnn
  clear hnn
  go_enter Try.func45, Try.ntmps45
  go_wp2_with fail
  have z1 : ((w.alloc (.cells #[.int .i64 wd, .slice ha hs.length hcap, .slice sa ss.length scap] 25)).alloc (.cells #[.int .i64 0, .int .i64 0] 54)).cell? ⟨w.heap.size, 1, none⟩ = some (.slice ha hs.length hcap) := by simp [go_sem]
  have z2 : ((w.alloc (.cells #[.int .i64 wd, .slice ha hs.length hcap, .slice sa ss.length scap] 25)).alloc (.cells #[.int .i64 0, .int .i64 0] 54)).cell? ⟨w.heap.size + 1, 0, none⟩ = some (.int .i64 0) := by simp [go_sem]
  have z3 : ((w.alloc (.cells #[.int .i64 wd, .slice ha hs.length hcap, .slice sa ss.length scap] 25)).alloc (.cells #[.int .i64 0, .int .i64 0] 54)).cell? ⟨w.heap.size + 1, 1, none⟩ = some (.int .i64 0) := by simp [go_sem]
  have z4 : ((w.alloc (.cells #[.int .i64 wd, .slice ha hs.length hcap, .slice sa ss.length scap] 25)).alloc (.cells #[.int .i64 0, .int .i64 0] 54)).frozen? ⟨w.heap.size + 1, 0, none⟩ = false := by simp [go_sem]
  have z5 : ((w.alloc (.cells #[.int .i64 wd, .slice ha hs.length hcap, .slice sa ss.length scap] 25)).alloc (.cells #[.int .i64 0, .int .i64 0] 54)).frozen? ⟨w.heap.size + 1, 1, none⟩ = false := by simp [go_sem]
  refine CO.out.mono ?_
  rintro e w1 ⟨p, rfl, hb, hyes⟩
  have r1 := cell_on hb z1
  have r2 := cell_on hb z2
  have r3 := cell_on hb z3
  have r4 := frozen_on hb z2 z4
  have r5 := frozen_on hb z3 z5
  have BR : Below w.heap.size w w1 := B1.trans (hb.mono (by simp; omega))
  have hqs : w.heap.size + 2 ≤ w1.heap.size := by have := hb.size; simpa using this
  clear z1 z2 z3 z4 z5 hb CO B1
  obtain ⟨er, her⟩ : ∃ er, er = landErr wd hs ss xs := ⟨_, rfl⟩
  rw [← her] at hyes ⊢
  have HER := Lib.hid her
  clear her
  have bad : ∀ (W : World) (f : Func) (tmps : Array Value) (er : Int), f.results = #[.cell 4 54, .tmp 5] → tmps.getD 4 undef = .pointer (some ⟨w.heap.size + 1, 0, none⟩) → tmps.getD 5 undef = .int .i64 er → W.cell? ⟨w.heap.size + 1, 0, none⟩ = some (.int .i64 0) → W.cell? ⟨w.heap.size + 1, 1, none⟩ = some (.int .i64 0) →
      (results f tmps).run Try.prog ((W.setCell ⟨w.heap.size + 1, 0, none⟩ (.int .i64 0)).setCell ⟨w.heap.size + 1, 1, none⟩ (.int .i64 0)) = .ok (.tuple #[.agg #[.int .i64 0, .int .i64 0], .int .i64 er]) ((W.setCell ⟨w.heap.size + 1, 0, none⟩ (.int .i64 0)).setCell ⟨w.heap.size + 1, 1, none⟩ (.int .i64 0)) := by
    intro W f tmps er hr h4 h5 h0 h1
    obtain ⟨u0, u1⟩ := span_set (.int .i64 0) (.int .i64 0) h0 h1
    rw [results_ct hr tmps _ (w.heap.size + 1) _ h4 (load_span u0 u1), h5]
  have HBAD := Lib.hid bad
  clear bad
  by_cases he : er = 0
  · subst he
    obtain ⟨q, rfl, hq, HW, HM⟩ := hyes rfl
    have hq : w.heap.size + 2 ≤ q := by simpa using hq
    have HWM := Lib.hid HW
    have HOK := Lib.hid (And.intro (land_cells HER.out.symm) (openErr_ok (landErr_good HER.out.symm).1))
    have hl : Hid (ss.length ≤ 100 ∧ hs.length = ss.length) := Lib.hid ⟨HOK.out.2.n1, HOK.out.2.hn⟩
    have HRS := Lib.hid (And.intro r1 (And.intro r2 (And.intro r3 (And.intro r4 r5))))
    clear hyes HW HM r1
    by_cases h0 : nn = 0
    · subst h0
      go_wp2_with fail
      refine bodyPost_ret (v := .tuple #[.agg #[.int .i64 0, .int .i64 0], .int .i64 9]) (HBAD.out _ _ _ _ rfl rfl rfl r2 r3) rfl ?_
      exact ⟨0, 0, 9, rfl, (BR.setCell (p := ⟨w.heap.size + 1, 0, none⟩) (Nat.le_succ _) _).setCell (p := ⟨w.heap.size + 1, 1, none⟩) (Nat.le_succ _) _, .inr (.inl ⟨HER.out.symm, fun h => by have := h.1; have h2 := HNN.out; omega, rfl, rfl, rfl⟩)⟩
    · obtain ⟨m, rfl⟩ : ∃ m, nn = m + 1 := ⟨nn - 1, by omega⟩
      have hm1 : (m : Int) < 1000 := by omega
      have hm0 : ((m : Int) + 1 == 0) = false := by rw [beq_eq_false_iff_ne]; omega
      clear hn h0
      obtain ⟨cb, coff, rfl, hcb, hcell⟩ := HCC.out.1 (ints_ne (by have := HNN.out; omega))
      obtain ⟨c0, hc0, hc0l⟩ := HOK.out.1 0 (by have := HNN.out; omega)
      obtain ⟨cl, hcl, hcll⟩ := HOK.out.1 m (by have := HNN.out; omega)
      have q0 : w1.cell? ⟨cb, coff, none⟩ = some (.int .i64 c0) := by have h1 := hcell 0 _ (ints_at' xs 0 (by have := HNN.out; omega)); rw [← List.getD_eq_getElem?_getD, hc0] at h1; exact cell_below BR (by simpa using h1) (by dsimp only; omega)
      have q1 : w1.cell? ⟨cb, coff + m, none⟩ = some (.int .i64 cl) := by have h1 := hcell m _ (ints_at' xs m (by have := HNN.out; omega)); rw [← List.getD_eq_getElem?_getD, hcl] at h1; exact cell_below BR h1 (by dsimp only; omega)
      have HC0 := Lib.hid (And.intro hc0 (And.intro hcl hcell))
      have CA := Lib.hid (at_any (s := 1) (c := c0) HOK.out.2 (by have := hl.out; show c0 < ss.length; omega) (Nat.le_refl _) (HWM.out.at HWM.out.lt (by omega)))
      have Q1 := Lib.hid q1
      obtain ⟨d0, hd0⟩ : ∃ d0, atB ⟨wd.toNat, hs, ss⟩ c0 1 = d0 := ⟨_, rfl⟩
      rw [hd0] at CA
      have HD0 := Lib.hid hd0
      clear hc0 hcl hcell q1 hd0
      go_wp2_with fail
      refine CA.out.mono ?_
      rintro e w2 ⟨rfl, hb2⟩
      clear CA
      have hs2 := hb2.size
      have B2 := BR.trans (hb2.mono (by omega))
      replace r2 := cell_on hb2 r2
      replace r3 := cell_on hb2 r3
      replace r4 := frozen_on hb2 HRS.out.2.1 r4
      replace r5 := frozen_on hb2 HRS.out.2.2.1 r5
      cases d0 with
      | false =>
        go_wp2_with fail
        refine bodyPost_ret (v := .tuple #[.agg #[.int .i64 0, .int .i64 0], .int .i64 9]) (HBAD.out _ _ _ _ rfl rfl rfl r2 r3) rfl ?_
        refine ⟨0, 0, 9, rfl, (B2.setCell (p := ⟨w.heap.size + 1, 0, none⟩) (Nat.le_succ _) _).setCell (p := ⟨w.heap.size + 1, 1, none⟩) (Nat.le_succ _) _, .inr (.inl ⟨HER.out.symm, fun h => ?_, rfl, rfl, rfl⟩)⟩
        have h1 := h.2.1
        rw [HC0.out.1, Int.toNat_natCast, HD0.out] at h1; cases h1
      | true =>
        have q1 := cell_on hb2 Q1.out
        have CA := Lib.hid (at_any (s := 2) (c := cl) HOK.out.2 (by have := hl.out; show cl < ss.length; omega) (Nat.le_refl _) ((HWM.out.below hb2 (by omega)).at (HWM.out.below hb2 (by omega)).lt (by omega)))
        obtain ⟨d1, hd1⟩ : ∃ d1, atB ⟨wd.toNat, hs, ss⟩ cl 2 = d1 := ⟨_, rfl⟩
        rw [hd1] at CA
        have HD1 := Lib.hid hd1
        have e1 : IntKind.i64.wrap (m : Int) = m := IntWalk.i64_in _ (by omega)
        clear hd1 q0
        go_wp2_with fail
        refine CA.out.mono ?_
        rintro e w4 ⟨rfl, hb4⟩
        clear CA e1 q1
        have hs4 := hb4.size
        have B4 := B2.trans (hb4.mono (by omega))
        replace r2 := cell_on hb4 r2
        replace r3 := cell_on hb4 r3
        replace r4 := frozen_on hb4 (cell_on hb2 HRS.out.2.1) r4
        replace r5 := frozen_on hb4 (cell_on hb2 HRS.out.2.2.1) r5
        have H4 := Lib.hid (And.intro (cell_on hb4 (cell_on hb2 HRS.out.1)) (And.intro r2 (And.intro r3 (And.intro r4 (And.intro r5 ((HWM.out.below hb2 (by omega)).below hb4 (by omega)))))))
        clear hb2 hb4 B2
        cases d1 with
        | false =>
          go_wp2_with fail
          refine bodyPost_ret (v := .tuple #[.agg #[.int .i64 0, .int .i64 0], .int .i64 9]) (HBAD.out _ _ _ _ rfl rfl rfl r2 r3) rfl ?_
          refine ⟨0, 0, 9, rfl, (B4.setCell (p := ⟨w.heap.size + 1, 0, none⟩) (Nat.le_succ _) _).setCell (p := ⟨w.heap.size + 1, 1, none⟩) (Nat.le_succ _) _, .inr (.inl ⟨HER.out.symm, fun h => ?_, rfl, rfl, rfl⟩)⟩
          have h1 := h.2.2.1
          rw [← HNN.out, Nat.add_sub_cancel, HC0.out.2.1, Int.toNat_natCast, HD1.out] at h1; cases h1
        | true =>
          clear r2 r3 r4 r5
          go_wp2_with fail
          have b0 : (w4.alloc (.cells #[.int .i64 0, .int .i64 0] 54)).cell? ⟨w4.heap.size, 0, none⟩ = some (.int .i64 0) := cell_new w4 #[.int .i64 0, .int .i64 0] 54 0 (by simp)
          have b1 : (w4.alloc (.cells #[.int .i64 0, .int .i64 0] 54)).cell? ⟨w4.heap.size, 1, none⟩ = some (.int .i64 0) := cell_new w4 #[.int .i64 0, .int .i64 0] 54 1 (by simp)
          have b2 : (w4.alloc (.cells #[.int .i64 0, .int .i64 0] 54)).frozen? ⟨w4.heap.size, 0, none⟩ = false := frozen_new w4 #[.int .i64 0, .int .i64 0] 54 0 (by simp)
          have b3 : (w4.alloc (.cells #[.int .i64 0, .int .i64 0] 54)).frozen? ⟨w4.heap.size, 1, none⟩ = false := frozen_new w4 #[.int .i64 0, .int .i64 0] 54 1 (by simp)
          have b4 : Below w4.heap.size w4 (w4.alloc (.cells #[.int .i64 0, .int .i64 0] 54)) := (Below.refl _ w4).alloc (Nat.le_refl _) _
          generalize (w4.alloc (.cells #[.int .i64 0, .int .i64 0] 54)) = w5 at b0 b1 b2 b3 b4 ⊢
          go_loopw [48] (fun i wr => ∃ k : Nat, k ≤ m + 1 ∧ i = .int .i64 k ∧ wr.cell? ⟨w4.heap.size, 0, none⟩ = some (.int .i64 (maxL (losOf hs (xs.take k)) 0)) ∧ wr.cell? ⟨w4.heap.size, 1, none⟩ = some (.int .i64 (maxL (hisOf hs (xs.take k)) 0)) ∧ wr.frozen? ⟨w4.heap.size, 0, none⟩ = false ∧ wr.frozen? ⟨w4.heap.size, 1, none⟩ = false ∧ Below w4.heap.size w4 wr ∧
            Hid (∀ j, j + 1 < k → xs.getD j 0 ∈ nbrL wd.toNat ss.length (xs.getD (j + 1) 0).toNat)) (fun i _ => m + 1 - (intOf i).toNat)
          case atStart => exact ⟨0, Nat.zero_le _, rfl, b0, b1, b2, b3, b4, Lib.hid (fun j h => by omega)⟩
          case round =>
            clear b0 b1 b2 b3 b4
            obtain ⟨k, hk, rfl, k0, k1, k2, k3, hbr, hP⟩ := hrel
            have hsr := hbr.size
            by_cases hlt : k < m + 1
            · obtain ⟨c, hc, hcl⟩ := HOK.out.1 k (by have := HNN.out; omega)
              obtain ⟨hb, hoff, rfl, hhb, hhcell⟩ := HCC.out.2 (spans_ne (by omega))
              have BW : Below w.heap.size w wr := B4.trans (hbr.mono (by omega))
              obtain ⟨a, hae⟩ : ∃ a, a = maxL (losOf hs (xs.take k)) 0 := ⟨_, rfl⟩
              obtain ⟨b, hbe⟩ : ∃ b, b = maxL (hisOf hs (xs.take k)) 0 := ⟨_, rfl⟩
              rw [← hae] at k0
              rw [← hbe] at k1
              obtain ⟨lo, hlo⟩ : ∃ lo, lo = (hs.getD c (0, 0)).1 := ⟨_, rfl⟩
              obtain ⟨up, hup⟩ : ∃ up, up = (hs.getD c (0, 0)).2 := ⟨_, rfl⟩
              have q0 : wr.cell? ⟨cb, coff + k, none⟩ = some (.int .i64 c) := by have h1 := HC0.out.2.2 k _ (ints_at' xs k (by have := HNN.out; omega)); rw [← List.getD_eq_getElem?_getD, hc] at h1; exact cell_below BW h1 (by dsimp only; omega)
              have HQ := Lib.hid (And.intro (show wr.cell? ⟨hb, hoff + c * 2, none⟩ = some (.int .i64 lo) by rw [hlo, List.getD_eq_getElem?_getD, List.getElem?_eq_getElem hcl]; exact cell_below BW (hhcell _ _ (spans_lo _ c hcl)) (by dsimp only; omega)) (And.intro (show wr.cell? ⟨hb, hoff + c * 2 + 1, none⟩ = some (.int .i64 up) by rw [hup, List.getD_eq_getElem?_getD, List.getElem?_eq_getElem hcl]; exact cell_below BW (hhcell _ _ (spans_hi _ c hcl)) (by dsimp only; omega)) (cell_on hbr H4.out.1)))
              have HS : Hid (maxL (losOf hs (xs.take (k + 1))) 0 = max a lo ∧ maxL (hisOf hs (xs.take (k + 1))) 0 = max b up) := Lib.hid ⟨by rw [los_snoc hs xs (by have := HNN.out; omega), ← hae, hc, Int.toNat_natCast, ← hlo], by rw [his_snoc hs xs (by have := HNN.out; omega), ← hbe, hc, Int.toNat_natCast, ← hup]⟩
              have HK := Lib.hid (And.intro k0 (And.intro k1 (And.intro k2 k3)))
              have HC := Lib.hid hc
              have hcc1 : (c : Int) < 100 := by have := hl.out; omega
              clear hae hbe hlo hup hhcell hc k0 k1 k2 k3
              cases k with
              | zero =>
                rw [Nat.add_zero] at q0
                go_wp2_with fail
                refine Lim.regC' (fun _ => True) [] #[false, false, false, false, false, false, false, false, false, false, false, false, false, false, false] (by kernel_rfl) rfl ?_
                refine Lim.stepR 0 (fun _ => trivial) rfl (by kernel_rfl) (fun _ _ _ _ h => h) trivial rfl ?_; apply Exists.intro; refine ⟨?_, ?_⟩
                · rintro w _; go_simp; try with_reducible rfl
                simp only [Act.put, List.setIfInBounds_toArray, List.set_cons_succ, List.set_cons_zero]
                refine Lim.stepR 1 (fun _ => trivial) rfl (by kernel_rfl) (fun _ _ _ _ h => h) trivial rfl ?_; apply Exists.intro; refine ⟨?_, ?_⟩
                · rintro w _; go_simp; try with_reducible rfl
                simp only [Act.put, List.setIfInBounds_toArray, List.set_cons_succ, List.set_cons_zero]
                refine Lim.stepR 2 (fun _ => trivial) rfl (by kernel_rfl) (fun _ _ _ _ h => h) trivial rfl ?_; apply Exists.intro; refine ⟨?_, ?_⟩
                · rintro w _; go_simp; try with_reducible rfl
                simp only [Act.put, List.setIfInBounds_toArray, List.set_cons_succ, List.set_cons_zero]
                refine Lim.stepS 3 (fun _ => trivial) rfl (by kernel_rfl) (fun _ _ _ _ h => h) trivial rfl ?_
                simp only [Act.put, List.setIfInBounds_toArray, List.set_cons_succ, List.set_cons_zero]
                refine Lim.stepS 4 (fun _ => trivial) rfl (by kernel_rfl) (fun _ _ _ _ h => h) trivial rfl ?_
                simp only [Act.put, List.setIfInBounds_toArray, List.set_cons_succ, List.set_cons_zero]
                refine Lim.stepS 5 (fun _ => trivial) rfl (by kernel_rfl) (fun _ _ _ _ h => h) trivial rfl ?_
                simp only [Act.put, List.setIfInBounds_toArray, List.set_cons_succ, List.set_cons_zero]
                refine Lim.stepS 6 (fun _ => trivial) rfl (by kernel_rfl) (fun _ _ _ _ h => h) trivial rfl ?_
                simp only [Act.put, List.setIfInBounds_toArray, List.set_cons_succ, List.set_cons_zero]
                refine Lim.stepS 7 (fun _ => trivial) rfl (by kernel_rfl) (fun _ _ _ _ h => h) trivial rfl ?_
                simp only [Act.put, List.setIfInBounds_toArray, List.set_cons_succ, List.set_cons_zero]
                refine Lim.stepS 8 (fun _ => trivial) rfl (by kernel_rfl) (fun _ _ _ _ h => h) trivial rfl ?_
                simp only [Act.put, List.setIfInBounds_toArray, List.set_cons_succ, List.set_cons_zero]
                refine Lim.stepS 9 (fun _ => trivial) rfl (by kernel_rfl) (fun _ _ _ _ h => h) trivial rfl ?_
                simp only [Act.put, List.setIfInBounds_toArray, List.set_cons_succ, List.set_cons_zero]
                refine Lim.stepS 10 (fun _ => trivial) rfl (by kernel_rfl) (fun _ _ _ _ h => h) trivial rfl ?_
                simp only [Act.put, List.setIfInBounds_toArray, List.set_cons_succ, List.set_cons_zero]
                refine Lim.stepS 11 (fun _ => trivial) rfl (by kernel_rfl) (fun _ _ _ _ h => h) trivial rfl ?_
                simp only [Act.put, List.setIfInBounds_toArray, List.set_cons_succ, List.set_cons_zero]
                refine Lim.stepS 12 (fun _ => trivial) rfl (by kernel_rfl) (fun _ _ _ _ h => h) trivial rfl ?_
                simp only [Act.put, List.setIfInBounds_toArray, List.set_cons_succ, List.set_cons_zero]
                refine Lim.stepS 13 (fun _ => trivial) rfl (by kernel_rfl) (fun _ _ _ _ h => h) trivial rfl ?_
                simp only [Act.put, List.setIfInBounds_toArray, List.set_cons_succ, List.set_cons_zero]
                refine Lim.stepR 14 (fun _ => trivial) rfl (by kernel_rfl) (fun _ _ _ _ h => h) trivial rfl ?_; apply Exists.intro; refine ⟨?_, ?_⟩
                · rintro w _; go_simp; try with_reducible rfl
                simp only [Act.put, List.setIfInBounds_toArray, List.set_cons_succ, List.set_cons_zero]
                refine Lim.stepD (by kernel_rfl) ?_
                have HB7 : Hid (Below wr.heap.size wr wr.drew) := Lib.hid (Below.refl _ wr).drew
                clear q0
                generalize wr.drew = w7 at HB7 ⊢
                have hs7 := HB7.out.size
                have p0 := cell_on HB7.out HK.out.1
                have p1 := cell_on HB7.out HK.out.2.1
                have p2 := frozen_on HB7.out HK.out.1 HK.out.2.2.1
                have p3 := frozen_on HB7.out HK.out.2.1 HK.out.2.2.2
                have hC : (fun W => W.cell? ⟨w4.heap.size, 0, none⟩ = some (.int .i64 a) ∧ W.cell? ⟨w4.heap.size, 1, none⟩ = some (.int .i64 b) ∧ W.cell? ⟨w.heap.size, 1, none⟩ = some (.slice (some ⟨hb, hoff, none⟩) hs.length hcap) ∧ W.cell? ⟨hb, hoff + c * 2, none⟩ = some (.int .i64 lo) ∧ W.cell? ⟨hb, hoff + c * 2 + 1, none⟩ = some (.int .i64 up)) w7.drew := ⟨p0, p1, cell_on HB7.out HQ.out.2.2, cell_on HB7.out HQ.out.1, cell_on HB7.out HQ.out.2.1⟩
                go_wp2_with fail
                refine Lim.regC' (fun W => W.cell? ⟨w4.heap.size, 0, none⟩ = some (.int .i64 a) ∧ W.cell? ⟨w4.heap.size, 1, none⟩ = some (.int .i64 b) ∧ W.cell? ⟨w.heap.size, 1, none⟩ = some (.slice (some ⟨hb, hoff, none⟩) hs.length hcap) ∧ W.cell? ⟨hb, hoff + c * 2, none⟩ = some (.int .i64 lo) ∧ W.cell? ⟨hb, hoff + c * 2 + 1, none⟩ = some (.int .i64 up)) [19] #[false, false, false, false, false, false, false, false, false, false, false, false, false, false, false, false, false, false, false, false] (by kernel_rfl) rfl ?_
                refine Lim.stepR 0 (fun _ => trivial) rfl (by kernel_rfl) (fun _ _ _ _ h => h) hC rfl ?_; apply Exists.intro; refine ⟨?_, ?_⟩
                · rintro w ⟨r1, r2, r3, r4, r5⟩; go_simp; try with_reducible rfl
                simp only [Act.put, List.setIfInBounds_toArray, List.set_cons_succ, List.set_cons_zero]
                refine Lim.stepR 1 (fun _ => trivial) rfl (by kernel_rfl) (fun _ _ _ _ h => h) hC rfl ?_; apply Exists.intro; refine ⟨?_, ?_⟩
                · rintro w ⟨r1, r2, r3, r4, r5⟩; go_simp; try with_reducible rfl
                simp only [Act.put, List.setIfInBounds_toArray, List.set_cons_succ, List.set_cons_zero]
                refine Lim.stepR 2 (fun _ => trivial) rfl (by kernel_rfl) (fun _ _ _ _ h => h) hC rfl ?_; apply Exists.intro; refine ⟨?_, ?_⟩
                · rintro w ⟨r1, r2, r3, r4, r5⟩; go_simp; try with_reducible rfl
                simp only [Act.put, List.setIfInBounds_toArray, List.set_cons_succ, List.set_cons_zero]
                refine Lim.stepR 3 (fun _ => trivial) rfl (by kernel_rfl) (fun _ _ _ _ h => h) hC rfl ?_; apply Exists.intro; refine ⟨?_, ?_⟩
                · rintro w ⟨r1, r2, r3, r4, r5⟩; go_simp; try with_reducible rfl
                simp only [Act.put, List.setIfInBounds_toArray, List.set_cons_succ, List.set_cons_zero]
                refine Lim.stepR 4 (fun _ => trivial) rfl (by kernel_rfl) (fun _ _ _ _ h => h) hC rfl ?_; apply Exists.intro; refine ⟨?_, ?_⟩
                · rintro w ⟨r1, r2, r3, r4, r5⟩; go_simp; try with_reducible rfl
                simp only [Act.put, List.setIfInBounds_toArray, List.set_cons_succ, List.set_cons_zero]
                refine Lim.stepR 5 (fun _ => trivial) rfl (by kernel_rfl) (fun _ _ _ _ h => h) hC rfl ?_; apply Exists.intro; refine ⟨?_, ?_⟩
                · rintro w ⟨r1, r2, r3, r4, r5⟩; go_simp; try with_reducible rfl
                simp only [Act.put, List.setIfInBounds_toArray, List.set_cons_succ, List.set_cons_zero]
                refine Lim.stepR 6 (fun _ => trivial) rfl (by kernel_rfl) (fun _ _ _ _ h => h) hC rfl ?_; apply Exists.intro; refine ⟨?_, ?_⟩
                · rintro w ⟨r1, r2, r3, r4, r5⟩; go_simp; try with_reducible rfl
                simp only [Act.put, List.setIfInBounds_toArray, List.set_cons_succ, List.set_cons_zero]
                refine Lim.stepR 7 (fun _ => trivial) rfl (by kernel_rfl) (fun _ _ _ _ h => h) hC rfl ?_; apply Exists.intro; refine ⟨?_, ?_⟩
                · rintro w ⟨r1, r2, r3, r4, r5⟩; go_simp; try with_reducible rfl
                simp only [Act.put, List.setIfInBounds_toArray, List.set_cons_succ, List.set_cons_zero]
                refine Lim.stepR 8 (fun _ => trivial) rfl (by kernel_rfl) (fun _ _ _ _ h => h) hC rfl ?_; apply Exists.intro; refine ⟨?_, ?_⟩
                · rintro w ⟨r1, r2, r3, r4, r5⟩; go_simp; try with_reducible rfl
                simp only [Act.put, List.setIfInBounds_toArray, List.set_cons_succ, List.set_cons_zero]
                refine Lim.stepR 9 (fun _ => trivial) rfl (by kernel_rfl) (fun _ _ _ _ h => h) hC rfl ?_; apply Exists.intro; refine ⟨?_, ?_⟩
                · rintro w ⟨r1, r2, r3, r4, r5⟩; go_simp; try with_reducible rfl
                simp only [Act.put, List.setIfInBounds_toArray, List.set_cons_succ, List.set_cons_zero]
                refine Lim.stepR 10 (fun _ => trivial) rfl (by kernel_rfl) (fun _ _ _ _ h => h) hC rfl ?_; apply Exists.intro; refine ⟨?_, ?_⟩
                · rintro w ⟨r1, r2, r3, r4, r5⟩; go_simp; try with_reducible rfl
                simp only [Act.put, List.setIfInBounds_toArray, List.set_cons_succ, List.set_cons_zero]
                refine Lim.stepR 11 (fun _ => trivial) rfl (by kernel_rfl) (fun _ _ _ _ h => h) hC rfl ?_; apply Exists.intro; refine ⟨?_, ?_⟩
                · rintro w ⟨r1, r2, r3, r4, r5⟩; go_simp; try with_reducible rfl
                simp only [Act.put, List.setIfInBounds_toArray, List.set_cons_succ, List.set_cons_zero]
                refine Lim.stepR 12 (fun _ => trivial) rfl (by kernel_rfl) (fun _ _ _ _ h => h) hC rfl ?_; apply Exists.intro; refine ⟨?_, ?_⟩
                · rintro w ⟨r1, r2, r3, r4, r5⟩; go_simp; try with_reducible rfl
                simp only [Act.put, List.setIfInBounds_toArray, List.set_cons_succ, List.set_cons_zero]
                refine Lim.stepR 13 (fun _ => trivial) rfl (by kernel_rfl) (fun _ _ _ _ h => h) hC rfl ?_; apply Exists.intro; refine ⟨?_, ?_⟩
                · rintro w ⟨r1, r2, r3, r4, r5⟩; go_simp; try with_reducible rfl
                simp only [Act.put, List.setIfInBounds_toArray, List.set_cons_succ, List.set_cons_zero]
                refine Lim.stepR 14 (fun _ => trivial) rfl (by kernel_rfl) (fun _ _ _ _ h => h) hC rfl ?_; apply Exists.intro; refine ⟨?_, ?_⟩
                · rintro w ⟨r1, r2, r3, r4, r5⟩; go_simp; try with_reducible rfl
                simp only [Act.put, List.setIfInBounds_toArray, List.set_cons_succ, List.set_cons_zero]
                refine Lim.stepR 15 (fun _ => trivial) rfl (by kernel_rfl) (fun _ _ _ _ h => h) hC rfl ?_; apply Exists.intro; refine ⟨?_, ?_⟩
                · rintro w ⟨r1, r2, r3, r4, r5⟩; go_simp; try with_reducible rfl
                simp only [Act.put, List.setIfInBounds_toArray, List.set_cons_succ, List.set_cons_zero]
                refine Lim.stepR 16 (fun _ => trivial) rfl (by kernel_rfl) (fun _ _ _ _ h => h) hC rfl ?_; apply Exists.intro; refine ⟨?_, ?_⟩
                · rintro w ⟨r1, r2, r3, r4, r5⟩; go_simp; try with_reducible rfl
                simp only [Act.put, List.setIfInBounds_toArray, List.set_cons_succ, List.set_cons_zero]
                refine Lim.stepR 17 (fun _ => trivial) rfl (by kernel_rfl) (fun _ _ _ _ h => h) hC rfl ?_; apply Exists.intro; refine ⟨?_, ?_⟩
                · rintro w ⟨r1, r2, r3, r4, r5⟩; go_simp; try with_reducible rfl
                simp only [Act.put, List.setIfInBounds_toArray, List.set_cons_succ, List.set_cons_zero]
                refine Lim.stepR 18 (fun _ => trivial) rfl (by kernel_rfl) (fun _ _ _ _ h => h) hC rfl ?_; apply Exists.intro; refine ⟨?_, ?_⟩
                · rintro w ⟨r1, r2, r3, r4, r5⟩; go_simp; try with_reducible rfl
                simp only [Act.put, List.setIfInBounds_toArray, List.set_cons_succ, List.set_cons_zero]
                refine Lim.stepX 19 (fun _ => trivial) rfl (by kernel_rfl) rfl rfl (fun K hK => ?_)   -- E store
                go_simp
                refine hK _ _ ?_
                refine Lim.segC (fun _ => True) [] (Lim.stepD (by kernel_rfl) ?_)
                clear hC
                obtain ⟨u0, u1⟩ := span_set (w := w7) (.int .i64 (max a lo)) (.int .i64 (max b up)) p0 p1
                have v0 : ((w7.setCell ⟨w4.heap.size, 0, none⟩ (.int .i64 (max a lo))).setCell ⟨w4.heap.size, 1, none⟩ (.int .i64 (max b up))).frozen? ⟨w4.heap.size, 0, none⟩ = false := by rw [World.frozen?_setCell, World.frozen?_setCell]; exact p2
                have v1 : ((w7.setCell ⟨w4.heap.size, 0, none⟩ (.int .i64 (max a lo))).setCell ⟨w4.heap.size, 1, none⟩ (.int .i64 (max b up))).frozen? ⟨w4.heap.size, 1, none⟩ = false := by rw [World.frozen?_setCell, World.frozen?_setCell]; exact p3
                have BF : Below w4.heap.size w4 ((w7.setCell ⟨w4.heap.size, 0, none⟩ (.int .i64 (max a lo))).setCell ⟨w4.heap.size, 1, none⟩ (.int .i64 (max b up))) := ((hbr.trans (HB7.out.mono hsr)).setCell (p := ⟨w4.heap.size, 0, none⟩) (Nat.le_refl _) _).setCell (p := ⟨w4.heap.size, 1, none⟩) (Nat.le_refl _) _
                have HF := Lib.hid (And.intro u0 (And.intro u1 (And.intro v0 (And.intro v1 BF))))
                clear u0 u1 v0 v1 BF p0 p1 p2 p3
                go_wp2
                go_roundw
                case rel =>
                  refine ⟨1, by omega, rfl, by rw [show List.take 1 xs = List.take (0 + 1) xs from rfl, HS.out.1]; exact HF.out.1, by rw [show List.take 1 xs = List.take (0 + 1) xs from rfl, HS.out.2]; exact HF.out.2.1, HF.out.2.2.1, HF.out.2.2.2.1, HF.out.2.2.2.2.drew, Lib.hid (fun j h => by omega)⟩
                case measure => first | (simp [intOf]; done) | (simp [intOf]; omega)
              | succ j =>
                obtain ⟨p, hp⟩ : ∃ p, p = xs.getD j 0 := ⟨_, rfl⟩
                have qp : wr.cell? ⟨cb, coff + j, none⟩ = some (.int .i64 p) := by have h1 := HC0.out.2.2 j _ (ints_at' xs j (by have := HNN.out; omega)); rw [← List.getD_eq_getElem?_getD, ← hp] at h1; exact cell_below BW h1 (by dsimp only; omega)
                have HPP := Lib.hid hp
                have HWM2 := Lib.hid (H4.out.2.2.2.2.2.below hbr (by omega))
                clear hp
                have hC : (fun W => W.cell? ⟨cb, coff + j, none⟩ = some (.int .i64 p)) wr.drew := qp
                have hg0 : decide (0 < j + 1) = true := by simp
                go_wp2_with fail
                have hp1 : (0 : Int) ≤ (j : Int) + 1 := by omega
                have hj2 : (j : Int) < (m : Int) + 1 := by omega
                have e1 : IntKind.i64.wrap (j : Int) = j := IntWalk.i64_in _ (by omega)
                refine Lim.regC' (fun W => W.cell? ⟨cb, coff + j, none⟩ = some (.int .i64 p)) [] #[false, false, false, false, false, false, false, false, false, false, false, false, false, false, false] (by kernel_rfl) rfl ?_
                refine Lim.stepR 0 (fun _ => trivial) rfl (by kernel_rfl) (fun _ _ _ _ h => h) hC rfl ?_; apply Exists.intro; refine ⟨?_, ?_⟩
                · rintro w r1; go_simp; try with_reducible rfl
                simp only [Act.put, List.setIfInBounds_toArray, List.set_cons_succ, List.set_cons_zero]
                refine Lim.stepR 1 (fun _ => trivial) rfl (by kernel_rfl) (fun _ _ _ _ h => h) hC rfl ?_; apply Exists.intro; refine ⟨?_, ?_⟩
                · rintro w r1; go_simp; try with_reducible rfl
                simp only [Act.put, List.setIfInBounds_toArray, List.set_cons_succ, List.set_cons_zero]
                refine Lim.stepR 2 (fun _ => trivial) rfl (by kernel_rfl) (fun _ _ _ _ h => h) hC rfl ?_; apply Exists.intro; refine ⟨?_, ?_⟩
                · rintro w r1; go_simp; try with_reducible rfl
                simp only [Act.put, List.setIfInBounds_toArray, List.set_cons_succ, List.set_cons_zero]
                refine Lim.stepR 3 (fun _ => trivial) rfl (by kernel_rfl) (fun _ _ _ _ h => h) hC rfl ?_; apply Exists.intro; refine ⟨?_, ?_⟩
                · rintro w r1; go_simp; try with_reducible rfl
                simp only [Act.put, List.setIfInBounds_toArray, List.set_cons_succ, List.set_cons_zero]
                refine Lim.stepR 4 (fun _ => trivial) rfl (by kernel_rfl) (fun _ _ _ _ h => h) hC rfl ?_; apply Exists.intro; refine ⟨?_, ?_⟩
                · rintro w r1; go_simp; try with_reducible rfl
                simp only [Act.put, List.setIfInBounds_toArray, List.set_cons_succ, List.set_cons_zero]
                refine Lim.stepR 7 (fun _ => trivial) rfl (by kernel_rfl) (fun _ _ _ _ h => h) hC rfl ?_; apply Exists.intro; refine ⟨?_, ?_⟩
                · rintro w r1; go_simp; try with_reducible rfl
                simp only [Act.put, List.setIfInBounds_toArray, List.set_cons_succ, List.set_cons_zero]
                refine Lim.stepR 8 (fun _ => trivial) rfl (by kernel_rfl) (fun _ _ _ _ h => h) hC rfl ?_; apply Exists.intro; refine ⟨?_, ?_⟩
                · rintro w r1; go_simp; try with_reducible rfl
                simp only [Act.put, List.setIfInBounds_toArray, List.set_cons_succ, List.set_cons_zero]
                refine Lim.stepR 9 (fun _ => trivial) rfl (by kernel_rfl) (fun _ _ _ _ h => h) hC rfl ?_; apply Exists.intro; refine ⟨?_, ?_⟩
                · rintro w r1; go_simp; try with_reducible rfl
                simp only [Act.put, List.setIfInBounds_toArray, List.set_cons_succ, List.set_cons_zero]
                refine Lim.stepR 10 (fun _ => trivial) rfl (by kernel_rfl) (fun _ _ _ _ h => h) hC rfl ?_; apply Exists.intro; refine ⟨?_, ?_⟩
                · rintro w r1; go_simp; try with_reducible rfl
                simp only [Act.put, List.setIfInBounds_toArray, List.set_cons_succ, List.set_cons_zero]
                refine Lim.stepR 11 (fun _ => trivial) rfl (by kernel_rfl) (fun _ _ _ _ h => h) hC rfl ?_; apply Exists.intro; refine ⟨?_, ?_⟩
                · rintro w r1; go_simp; try with_reducible rfl
                simp only [Act.put, List.setIfInBounds_toArray, List.set_cons_succ, List.set_cons_zero]
                refine Lim.stepE 5 (fun _ => trivial) rfl (by kernel_rfl) rfl (fun K hK => ?_)   -- E call
                go_simp
                refine ⟨rfl, (callsIn_wide.2 (neighbours_any _ _ wr.drew ⟨_, rfl⟩ ⟨_, rfl⟩)).mono ?_⟩
                rintro e w6 ⟨rfl, hw6⟩
                have hB6 : Below wr.heap.size wr w6 := by rw [← hw6]; exact (((Below.refl _ wr).drew).alloc (Nat.le_refl _) _).alloc (by rw [World.size_alloc]; exact Nat.le_succ _) _
                have f4 : w6.cell? ⟨wr.heap.size, 0, none⟩ = some (.pointer (some ⟨q, 0, none⟩)) := by rw [← hw6]; exact cell_al _ (cell_new wr.drew #[.pointer (some ⟨q, 0, none⟩)] _ 0 (by simp))
                have f5 : w6.cell? ⟨wr.heap.size + 1, 0, none⟩ = some (.int .i64 c) := by
                  rw [← hw6]
                  have := cell_new (wr.drew.alloc (.cells #[.pointer (some ⟨q, 0, none⟩)] 98)) #[.int .i64 c] 3 0 (by simp)
                  rw [World.size_alloc] at this
                  exact this
                clear hw6
                have HW6 := HWM2.out.below hB6 (by omega)
                obtain ⟨hvv, hb1, ha3, hcap3, rfl, -⟩ := HW6.c1
                have CCo := Lib.hid (collect_nbr (w := w6) (bw := wr.heap.size) (bc := wr.heap.size + 1) (b := q) (wd := wd.toNat) (N := hs.length) (cap := hcap3) (c := c) (ha := ha3) HOK.out.2.w0 HOK.out.2.w1 (by have := hl.out; omega) (by have := hl.out; omega) ⟨f4, f5, HW6.c0, hb1⟩)
                have HB6 := Lib.hid hB6
                have hC2 : (fun W => W.cell? ⟨cb, coff + j, none⟩ = some (.int .i64 p)) w6 := cell_on hB6 hC
                clear hC f4 f5 hB6 HW6 hb1
                refine hK _ _ hC2 ?_
                simp only [Act.put, List.setIfInBounds_toArray, List.set_cons_succ, List.set_cons_zero]
                refine Lim.stepE 6 (fun _ => trivial) rfl (by kernel_rfl) rfl (fun K hK => ?_)   -- E call
                go_simp
                refine ⟨rfl, (callsIn_wide.2 CCo.out).mono ?_⟩
                rintro e w7 ⟨v7, rfl, ho7, hb7⟩
                have hC3 : (fun W => W.cell? ⟨cb, coff + j, none⟩ = some (.int .i64 p)) w7 := cell_on hb7 hC2
                have HB7 := Lib.hid (HB6.out.trans (hb7.mono HB6.out.size))
                have CN := Lib.hid (contains_any (B := w7.heap.size) (v := v7) (xs := nbrL wd.toNat hs.length c) p (nbr_len _ _ _) (RS.of_owns ho7))
                clear hC2 hb7 ho7 CCo HB6
                refine hK _ _ hC3 ?_
                simp only [Act.put, List.setIfInBounds_toArray, List.set_cons_succ, List.set_cons_zero]
                refine Lim.stepE 12 (fun _ => trivial) rfl (by kernel_rfl) rfl (fun K hK => ?_)   -- E call
                go_simp
                refine ⟨rfl, (callsIn_wide.2 CN.out).mono ?_⟩
                rintro e w8 ⟨rfl, rfl⟩
                refine hK _ _ hC3 ?_
                simp only [Act.put, List.setIfInBounds_toArray, List.set_cons_succ, List.set_cons_zero]
                refine Lim.stepR 13 (fun _ => trivial) rfl (by kernel_rfl) (fun _ _ _ _ h => h) hC3 rfl ?_; apply Exists.intro; refine ⟨?_, ?_⟩
                · rintro w r1; go_simp; try with_reducible rfl
                simp only [Act.put, List.setIfInBounds_toArray, List.set_cons_succ, List.set_cons_zero]
                refine Lim.stepR 14 (fun _ => trivial) rfl (by kernel_rfl) (fun _ _ _ _ h => h) hC3 rfl ?_; apply Exists.intro; refine ⟨?_, ?_⟩
                · rintro w r1; go_simp; try with_reducible rfl
                simp only [Act.put, List.setIfInBounds_toArray, List.set_cons_succ, List.set_cons_zero]
                refine Lim.stepD (by kernel_rfl) ?_
                clear qp hp1 hj2 e1 hC3 hg0 q0 CN
                obtain ⟨d, hd⟩ : ∃ d, decide (p ∈ nbrL wd.toNat hs.length c) = d := ⟨_, rfl⟩
                simp only [hd]
                have HD := Lib.hid hd
                clear hd
                cases d with
                | false =>
                  have hs7 := HB7.out.size
                  have r2 := cell_on HB7.out (cell_on hbr H4.out.2.1)
                  have r3 := cell_on HB7.out (cell_on hbr H4.out.2.2.1)
                  have r4 := frozen_on HB7.out (cell_on hbr H4.out.2.1) (frozen_on hbr H4.out.2.1 H4.out.2.2.2.1)
                  have r5 := frozen_on HB7.out (cell_on hbr H4.out.2.2.1) (frozen_on hbr H4.out.2.2.1 H4.out.2.2.2.2.1)
                  go_wp2_with fail
                  refine bodyPost_ret (v := .tuple #[.agg #[.int .i64 0, .int .i64 0], .int .i64 9]) (HBAD.out _ _ _ _ rfl rfl rfl r2 r3) rfl ?_
                  refine ⟨0, 0, 9, rfl, ((BW.trans (HB7.out.mono (by omega))).setCell (p := ⟨w.heap.size + 1, 0, none⟩) (Nat.le_succ _) _).setCell (p := ⟨w.heap.size + 1, 1, none⟩) (Nat.le_succ _) _, .inr (.inl ⟨HER.out.symm, fun h => ?_, rfl, rfl, rfl⟩)⟩
                  have h1 := h.2.2.2 j (by have := HNN.out; omega)
                  rw [← HPP.out, HC.out, Int.toNat_natCast] at h1
                  have h2 : (⟨wd.toNat, hs, ss⟩ : Gd).ss.length = hs.length := hl.out.2.symm
                  rw [h2] at h1
                  have h3 := HD.out
                  rw [decide_eq_false_iff_not] at h3
                  exact h3 h1
                | true =>
                  have hs7 := HB7.out.size
                  have p0 := cell_on HB7.out HK.out.1
                  have p1 := cell_on HB7.out HK.out.2.1
                  have p2 := frozen_on HB7.out HK.out.1 HK.out.2.2.1
                  have p3 := frozen_on HB7.out HK.out.2.1 HK.out.2.2.2
                  have hC : (fun W => W.cell? ⟨w4.heap.size, 0, none⟩ = some (.int .i64 a) ∧ W.cell? ⟨w4.heap.size, 1, none⟩ = some (.int .i64 b) ∧ W.cell? ⟨w.heap.size, 1, none⟩ = some (.slice (some ⟨hb, hoff, none⟩) hs.length hcap) ∧ W.cell? ⟨hb, hoff + c * 2, none⟩ = some (.int .i64 lo) ∧ W.cell? ⟨hb, hoff + c * 2 + 1, none⟩ = some (.int .i64 up)) w7.drew := ⟨p0, p1, cell_on HB7.out HQ.out.2.2, cell_on HB7.out HQ.out.1, cell_on HB7.out HQ.out.2.1⟩
                  go_wp2_with fail
                  refine Lim.regC' (fun W => W.cell? ⟨w4.heap.size, 0, none⟩ = some (.int .i64 a) ∧ W.cell? ⟨w4.heap.size, 1, none⟩ = some (.int .i64 b) ∧ W.cell? ⟨w.heap.size, 1, none⟩ = some (.slice (some ⟨hb, hoff, none⟩) hs.length hcap) ∧ W.cell? ⟨hb, hoff + c * 2, none⟩ = some (.int .i64 lo) ∧ W.cell? ⟨hb, hoff + c * 2 + 1, none⟩ = some (.int .i64 up)) [19] #[false, false, false, false, false, false, false, false, false, false, false, false, false, false, false, false, false, false, false, false] (by kernel_rfl) rfl ?_
                  refine Lim.stepR 0 (fun _ => trivial) rfl (by kernel_rfl) (fun _ _ _ _ h => h) hC rfl ?_; apply Exists.intro; refine ⟨?_, ?_⟩
                  · rintro w ⟨r1, r2, r3, r4, r5⟩; go_simp; try with_reducible rfl
                  simp only [Act.put, List.setIfInBounds_toArray, List.set_cons_succ, List.set_cons_zero]
                  refine Lim.stepR 1 (fun _ => trivial) rfl (by kernel_rfl) (fun _ _ _ _ h => h) hC rfl ?_; apply Exists.intro; refine ⟨?_, ?_⟩
                  · rintro w ⟨r1, r2, r3, r4, r5⟩; go_simp; try with_reducible rfl
                  simp only [Act.put, List.setIfInBounds_toArray, List.set_cons_succ, List.set_cons_zero]
                  refine Lim.stepR 2 (fun _ => trivial) rfl (by kernel_rfl) (fun _ _ _ _ h => h) hC rfl ?_; apply Exists.intro; refine ⟨?_, ?_⟩
                  · rintro w ⟨r1, r2, r3, r4, r5⟩; go_simp; try with_reducible rfl
                  simp only [Act.put, List.setIfInBounds_toArray, List.set_cons_succ, List.set_cons_zero]
                  refine Lim.stepR 3 (fun _ => trivial) rfl (by kernel_rfl) (fun _ _ _ _ h => h) hC rfl ?_; apply Exists.intro; refine ⟨?_, ?_⟩
                  · rintro w ⟨r1, r2, r3, r4, r5⟩; go_simp; try with_reducible rfl
                  simp only [Act.put, List.setIfInBounds_toArray, List.set_cons_succ, List.set_cons_zero]
                  refine Lim.stepR 4 (fun _ => trivial) rfl (by kernel_rfl) (fun _ _ _ _ h => h) hC rfl ?_; apply Exists.intro; refine ⟨?_, ?_⟩
                  · rintro w ⟨r1, r2, r3, r4, r5⟩; go_simp; try with_reducible rfl
                  simp only [Act.put, List.setIfInBounds_toArray, List.set_cons_succ, List.set_cons_zero]
                  refine Lim.stepR 5 (fun _ => trivial) rfl (by kernel_rfl) (fun _ _ _ _ h => h) hC rfl ?_; apply Exists.intro; refine ⟨?_, ?_⟩
                  · rintro w ⟨r1, r2, r3, r4, r5⟩; go_simp; try with_reducible rfl
                  simp only [Act.put, List.setIfInBounds_toArray, List.set_cons_succ, List.set_cons_zero]
                  refine Lim.stepR 6 (fun _ => trivial) rfl (by kernel_rfl) (fun _ _ _ _ h => h) hC rfl ?_; apply Exists.intro; refine ⟨?_, ?_⟩
                  · rintro w ⟨r1, r2, r3, r4, r5⟩; go_simp; try with_reducible rfl
                  simp only [Act.put, List.setIfInBounds_toArray, List.set_cons_succ, List.set_cons_zero]
                  refine Lim.stepR 7 (fun _ => trivial) rfl (by kernel_rfl) (fun _ _ _ _ h => h) hC rfl ?_; apply Exists.intro; refine ⟨?_, ?_⟩
                  · rintro w ⟨r1, r2, r3, r4, r5⟩; go_simp; try with_reducible rfl
                  simp only [Act.put, List.setIfInBounds_toArray, List.set_cons_succ, List.set_cons_zero]
                  refine Lim.stepR 8 (fun _ => trivial) rfl (by kernel_rfl) (fun _ _ _ _ h => h) hC rfl ?_; apply Exists.intro; refine ⟨?_, ?_⟩
                  · rintro w ⟨r1, r2, r3, r4, r5⟩; go_simp; try with_reducible rfl
                  simp only [Act.put, List.setIfInBounds_toArray, List.set_cons_succ, List.set_cons_zero]
                  refine Lim.stepR 9 (fun _ => trivial) rfl (by kernel_rfl) (fun _ _ _ _ h => h) hC rfl ?_; apply Exists.intro; refine ⟨?_, ?_⟩
                  · rintro w ⟨r1, r2, r3, r4, r5⟩; go_simp; try with_reducible rfl
                  simp only [Act.put, List.setIfInBounds_toArray, List.set_cons_succ, List.set_cons_zero]
                  refine Lim.stepR 10 (fun _ => trivial) rfl (by kernel_rfl) (fun _ _ _ _ h => h) hC rfl ?_; apply Exists.intro; refine ⟨?_, ?_⟩
                  · rintro w ⟨r1, r2, r3, r4, r5⟩; go_simp; try with_reducible rfl
                  simp only [Act.put, List.setIfInBounds_toArray, List.set_cons_succ, List.set_cons_zero]
                  refine Lim.stepR 11 (fun _ => trivial) rfl (by kernel_rfl) (fun _ _ _ _ h => h) hC rfl ?_; apply Exists.intro; refine ⟨?_, ?_⟩
                  · rintro w ⟨r1, r2, r3, r4, r5⟩; go_simp; try with_reducible rfl
                  simp only [Act.put, List.setIfInBounds_toArray, List.set_cons_succ, List.set_cons_zero]
                  refine Lim.stepR 12 (fun _ => trivial) rfl (by kernel_rfl) (fun _ _ _ _ h => h) hC rfl ?_; apply Exists.intro; refine ⟨?_, ?_⟩
                  · rintro w ⟨r1, r2, r3, r4, r5⟩; go_simp; try with_reducible rfl
                  simp only [Act.put, List.setIfInBounds_toArray, List.set_cons_succ, List.set_cons_zero]
                  refine Lim.stepR 13 (fun _ => trivial) rfl (by kernel_rfl) (fun _ _ _ _ h => h) hC rfl ?_; apply Exists.intro; refine ⟨?_, ?_⟩
                  · rintro w ⟨r1, r2, r3, r4, r5⟩; go_simp; try with_reducible rfl
                  simp only [Act.put, List.setIfInBounds_toArray, List.set_cons_succ, List.set_cons_zero]
                  refine Lim.stepR 14 (fun _ => trivial) rfl (by kernel_rfl) (fun _ _ _ _ h => h) hC rfl ?_; apply Exists.intro; refine ⟨?_, ?_⟩
                  · rintro w ⟨r1, r2, r3, r4, r5⟩; go_simp; try with_reducible rfl
                  simp only [Act.put, List.setIfInBounds_toArray, List.set_cons_succ, List.set_cons_zero]
                  refine Lim.stepR 15 (fun _ => trivial) rfl (by kernel_rfl) (fun _ _ _ _ h => h) hC rfl ?_; apply Exists.intro; refine ⟨?_, ?_⟩
                  · rintro w ⟨r1, r2, r3, r4, r5⟩; go_simp; try with_reducible rfl
                  simp only [Act.put, List.setIfInBounds_toArray, List.set_cons_succ, List.set_cons_zero]
                  refine Lim.stepR 16 (fun _ => trivial) rfl (by kernel_rfl) (fun _ _ _ _ h => h) hC rfl ?_; apply Exists.intro; refine ⟨?_, ?_⟩
                  · rintro w ⟨r1, r2, r3, r4, r5⟩; go_simp; try with_reducible rfl
                  simp only [Act.put, List.setIfInBounds_toArray, List.set_cons_succ, List.set_cons_zero]
                  refine Lim.stepR 17 (fun _ => trivial) rfl (by kernel_rfl) (fun _ _ _ _ h => h) hC rfl ?_; apply Exists.intro; refine ⟨?_, ?_⟩
                  · rintro w ⟨r1, r2, r3, r4, r5⟩; go_simp; try with_reducible rfl
                  simp only [Act.put, List.setIfInBounds_toArray, List.set_cons_succ, List.set_cons_zero]
                  refine Lim.stepR 18 (fun _ => trivial) rfl (by kernel_rfl) (fun _ _ _ _ h => h) hC rfl ?_; apply Exists.intro; refine ⟨?_, ?_⟩
                  · rintro w ⟨r1, r2, r3, r4, r5⟩; go_simp; try with_reducible rfl
                  simp only [Act.put, List.setIfInBounds_toArray, List.set_cons_succ, List.set_cons_zero]
                  refine Lim.stepX 19 (fun _ => trivial) rfl (by kernel_rfl) rfl rfl (fun K hK => ?_)   -- E store
                  go_simp
                  refine hK _ _ ?_
                  refine Lim.segC (fun _ => True) [] (Lim.stepD (by kernel_rfl) ?_)
                  clear hC
                  obtain ⟨u0, u1⟩ := span_set (w := w7) (.int .i64 (max a lo)) (.int .i64 (max b up)) p0 p1
                  have v0 : ((w7.setCell ⟨w4.heap.size, 0, none⟩ (.int .i64 (max a lo))).setCell ⟨w4.heap.size, 1, none⟩ (.int .i64 (max b up))).frozen? ⟨w4.heap.size, 0, none⟩ = false := by rw [World.frozen?_setCell, World.frozen?_setCell]; exact p2
                  have v1 : ((w7.setCell ⟨w4.heap.size, 0, none⟩ (.int .i64 (max a lo))).setCell ⟨w4.heap.size, 1, none⟩ (.int .i64 (max b up))).frozen? ⟨w4.heap.size, 1, none⟩ = false := by rw [World.frozen?_setCell, World.frozen?_setCell]; exact p3
                  have BF : Below w4.heap.size w4 ((w7.setCell ⟨w4.heap.size, 0, none⟩ (.int .i64 (max a lo))).setCell ⟨w4.heap.size, 1, none⟩ (.int .i64 (max b up))) := ((hbr.trans (HB7.out.mono hsr)).setCell (p := ⟨w4.heap.size, 0, none⟩) (Nat.le_refl _) _).setCell (p := ⟨w4.heap.size, 1, none⟩) (Nat.le_refl _) _
                  have HF := Lib.hid (And.intro u0 (And.intro u1 (And.intro v0 (And.intro v1 BF))))
                  clear u0 u1 v0 v1 BF p0 p1 p2 p3
                  go_wp2
                  go_roundw
                  case rel =>
                    refine ⟨j + 1 + 1, by omega, by go_num, by rw [HS.out.1]; exact HF.out.1, by rw [HS.out.2]; exact HF.out.2.1, HF.out.2.2.1, HF.out.2.2.2.1, HF.out.2.2.2.2.drew, Lib.hid (fun i h => ?_)⟩
                    by_cases e : i = j
                    · subst e
                      rw [HC.out, ← HPP.out, Int.toNat_natCast, ← hl.out.2]
                      exact of_decide_eq_true HD.out
                    · exact hP.out i (by omega)
                  case measure => first | (simp [intOf]; done) | (simp [intOf]; omega)
            · obtain rfl : k = m + 1 := by omega
              have r2 := cell_on hbr H4.out.2.1
              have r3 := cell_on hbr H4.out.2.2.1
              have r4 := frozen_on hbr H4.out.2.1 H4.out.2.2.2.1
              have r5 := frozen_on hbr H4.out.2.2.1 H4.out.2.2.2.2.1
              obtain ⟨a, hae⟩ : ∃ a, a = maxL (losOf hs (xs.take (m + 1))) 0 := ⟨_, rfl⟩
              obtain ⟨b, hbe⟩ : ∃ b, b = maxL (hisOf hs (xs.take (m + 1))) 0 := ⟨_, rfl⟩
              rw [← hae] at k0
              rw [← hbe] at k1
              have HAB := Lib.hid (And.intro hae hbe)
              clear hae hbe
              go_wp2_with fail
              obtain ⟨u0, u1⟩ := span_set (.int .i64 a) (.int .i64 b) r2 r3
              refine bodyPost_ret (v := .tuple #[.agg #[.int .i64 a, .int .i64 b], .int .i64 0]) ?_ rfl ?_
              · exact results_ct (p := 4) (u := 5) (ty := 54) rfl _ _ (w.heap.size + 1) _ rfl (load_span u0 u1)
              refine ⟨a, b, 0, rfl, (((B4.trans (hbr.mono (by omega))).setCell (p := ⟨w.heap.size + 1, 0, none⟩) (Nat.le_succ _) _).setCell (p := ⟨w.heap.size + 1, 1, none⟩) (Nat.le_succ _) _), .inr (.inr ⟨HER.out.symm, ⟨by have := HNN.out; omega, ?_, ?_, fun j hj => hP.out j (by have := HNN.out; omega)⟩, ?_, ?_, rfl⟩)⟩
              · rw [HC0.out.1, Int.toNat_natCast]; exact HD0.out
              · rw [← HNN.out, Nat.add_sub_cancel, HC0.out.2.1, Int.toNat_natCast]; exact HD1.out
              · rw [HAB.out.1, HNN.out, List.take_length]
              · rw [HAB.out.2, HNN.out, List.take_length]
  · have he1 : (er == 0) = false := by simpa using he
    clear hyes
    go_wp2_with fail
    refine bodyPost_ret (v := .tuple #[.agg #[.int .i64 0, .int .i64 0], .int .i64 er]) (HBAD.out _ _ _ _ rfl rfl rfl r2 r3) rfl ?_
    exact ⟨0, 0, er, rfl, (BR.setCell (p := ⟨w.heap.size + 1, 0, none⟩) (Nat.le_succ _) _).setCell (p := ⟨w.heap.size + 1, 1, none⟩) (Nat.le_succ _) _, .inl ⟨by rw [← HER.out]; exact he, rfl, rfl, HER.out⟩⟩
end Go.Proofs.Ytdgibmgifgdpbaa
/-
  Lists are compared: the contracts of the kit's function Equal at numbers, spans and sides.
-/
namespace Go.Proofs.Ytdgibmgifgdpbaa
open Go.RowKit Go.Shelf
open Lim

theorem list_eq_of {α : Type} [DecidableEq α] {l1 l2 : List α} {k : Nat} (h : ∀ j, j < k → l1[j]? = l2[j]?) (h1 : k = l1.length) (h2 : l1.length = l2.length) : l1 = l2 := by
  apply List.ext_getElem?
  intro j
  by_cases hj : j < k
  · exact h j hj
  · rw [List.getElem?_eq_none (by omega), List.getElem?_eq_none (by omega)]

theorem side_ne {l : List (Bool × Bool × Bool)} (h : 0 < l.length) : sideCells l ≠ [] := by intro e; have := sideCells_length l; rw [e] at this; simp at this; omega
theorem side_at (l : List (Bool × Bool × Bool)) (k : Nat) (hk : k < l.length) : (sideCells l)[k * 3]? = some (.bool l[k].1) ∧ (sideCells l)[k * 3 + 1]? = some (.bool l[k].2.1) ∧ (sideCells l)[k * 3 + 2]? = some (.bool l[k].2.2) := by
  have := sideCells_at l k hk
  rw [List.getD_eq_getElem?_getD, List.getElem?_eq_getElem hk] at this
  exact this

set_option maxRecDepth 100000 in
set_option maxHeartbeats 1000000 in
theorem equal_ints {B1 B2 : Nat} {v1 v2 : Value} {l1 l2 : List Int} {w : World} (hn : l1.length ≤ 1000) (h1 : RS B1 w v1 l1.length (ints l1)) (h2 : RS B2 w v2 l2.length (ints l2)) :
    Calls Try.prog 22 #[v1, v2] w fun e w' => e = .returned (.bool (decide (l1 = l2))) ∧ Below w.heap.size w w' := by
  obtain ⟨a1, c1, rfl, g1⟩ := h1
  obtain ⟨a2, c2, rfl, g2⟩ := h2
  have HG := Lib.hid (And.intro g1 g2)
  clear g1 g2
  obtain ⟨n2, hn2⟩ : ∃ n2, n2 = l2.length := ⟨_, rfl⟩
  obtain ⟨n1, hn1⟩ : ∃ n1, n1 = l1.length := ⟨_, rfl⟩
  rw [← hn2]
  rw [← hn1] at hn ⊢
  have HN := Lib.hid (And.intro hn1 hn2)
  clear hn1 hn2
  go_enter Try.func22, Try.ntmps22
  go_wp2_with fail
  go_loopw [8] (fun i wr => ∃ k : Nat, k ≤ n1 ∧ i = .int .i64 k ∧ Hid (k ≤ n2 ∧ ∀ j, j < k → l1[j]? = l2[j]?) ∧ Below w.heap.size w wr) (fun i _ => n1 - (intOf i).toNat)
  case atStart => exact ⟨0, Nat.zero_le _, rfl, Lib.hid ⟨Nat.zero_le _, fun j h => by omega⟩, Below.refl _ _⟩
  case round =>
    obtain ⟨k, hk, rfl, hP, hbr⟩ := hrel
    by_cases hlt : k < n1
    · have hkb : (k : Int) < 1000 := by omega
      by_cases hle : n2 ≤ k
      · have hd : decide (n2 ≤ k) = true := by simpa using hle
        have hC : (fun _ : World => True) wr.drew := trivial
        go_wp2_with fail
        refine Lim.regC' (fun _ => True) [] #[false, false, false, false, false, false, false, false, false, false, false, false, false, false, false] (by kernel_rfl) rfl ?_
        refine Lim.stepR 0 (fun _ => trivial) rfl (by kernel_rfl) (fun _ _ _ _ h => h) hC rfl ?_; apply Exists.intro; refine ⟨?_, ?_⟩
        · rintro w _; go_simp; try with_reducible rfl
        simp only [Act.put, List.setIfInBounds_toArray, List.set_cons_succ, List.set_cons_zero]
        refine Lim.stepR 1 (fun _ => trivial) rfl (by kernel_rfl) (fun _ _ _ _ h => h) hC rfl ?_; apply Exists.intro; refine ⟨?_, ?_⟩
        · rintro w _; go_simp; try with_reducible rfl
        simp only [Act.put, List.setIfInBounds_toArray, List.set_cons_succ, List.set_cons_zero]
        refine Lim.stepR 2 (fun _ => trivial) rfl (by kernel_rfl) (fun _ _ _ _ h => h) hC rfl ?_; apply Exists.intro; refine ⟨?_, ?_⟩
        · rintro w _; go_simp; try with_reducible rfl
        simp only [Act.put, List.setIfInBounds_toArray, List.set_cons_succ, List.set_cons_zero]
        refine Lim.stepR 3 (fun _ => trivial) rfl (by kernel_rfl) (fun _ _ _ _ h => h) hC rfl ?_; apply Exists.intro; refine ⟨?_, ?_⟩
        · rintro w _; go_simp; try with_reducible rfl
        simp only [Act.put, List.setIfInBounds_toArray, List.set_cons_succ, List.set_cons_zero]
        refine Lim.stepR 4 (fun _ => trivial) rfl (by kernel_rfl) (fun _ _ _ _ h => h) hC rfl ?_; apply Exists.intro; refine ⟨?_, ?_⟩
        · rintro w _; go_simp; try with_reducible rfl
        simp only [Act.put, List.setIfInBounds_toArray, List.set_cons_succ, List.set_cons_zero]
        refine Lim.stepS 5 (fun _ => trivial) rfl (by kernel_rfl) (fun _ _ _ _ h => h) hC rfl ?_
        simp only [Act.put, List.setIfInBounds_toArray, List.set_cons_succ, List.set_cons_zero]
        refine Lim.stepS 6 (fun _ => trivial) rfl (by kernel_rfl) (fun _ _ _ _ h => h) hC rfl ?_
        simp only [Act.put, List.setIfInBounds_toArray, List.set_cons_succ, List.set_cons_zero]
        refine Lim.stepS 7 (fun _ => trivial) rfl (by kernel_rfl) (fun _ _ _ _ h => h) hC rfl ?_
        simp only [Act.put, List.setIfInBounds_toArray, List.set_cons_succ, List.set_cons_zero]
        refine Lim.stepS 8 (fun _ => trivial) rfl (by kernel_rfl) (fun _ _ _ _ h => h) hC rfl ?_
        simp only [Act.put, List.setIfInBounds_toArray, List.set_cons_succ, List.set_cons_zero]
        refine Lim.stepS 9 (fun _ => trivial) rfl (by kernel_rfl) (fun _ _ _ _ h => h) hC rfl ?_
        simp only [Act.put, List.setIfInBounds_toArray, List.set_cons_succ, List.set_cons_zero]
        refine Lim.stepS 10 (fun _ => trivial) rfl (by kernel_rfl) (fun _ _ _ _ h => h) hC rfl ?_
        simp only [Act.put, List.setIfInBounds_toArray, List.set_cons_succ, List.set_cons_zero]
        refine Lim.stepS 11 (fun _ => trivial) rfl (by kernel_rfl) (fun _ _ _ _ h => h) hC rfl ?_
        simp only [Act.put, List.setIfInBounds_toArray, List.set_cons_succ, List.set_cons_zero]
        refine Lim.stepS 12 (fun _ => trivial) rfl (by kernel_rfl) (fun _ _ _ _ h => h) hC rfl ?_
        simp only [Act.put, List.setIfInBounds_toArray, List.set_cons_succ, List.set_cons_zero]
        refine Lim.stepS 13 (fun _ => trivial) rfl (by kernel_rfl) (fun _ _ _ _ h => h) hC rfl ?_
        simp only [Act.put, List.setIfInBounds_toArray, List.set_cons_succ, List.set_cons_zero]
        refine Lim.stepR 14 (fun _ => trivial) rfl (by kernel_rfl) (fun _ _ _ _ h => h) hC rfl ?_; apply Exists.intro; refine ⟨?_, ?_⟩
        · rintro w _; go_simp; try with_reducible rfl
        simp only [Act.put, List.setIfInBounds_toArray, List.set_cons_succ, List.set_cons_zero]
        refine Lim.stepD (by kernel_rfl) ?_
        clear hC
        go_wp2
        go_ret
        exact ⟨by rw [show decide (l1 = l2) = false from decide_eq_false (fun e => by have h3 := HN.out.1; have h4 := HN.out.2; rw [e] at h3; omega)]; rfl, hbr.drew⟩
      · have hd : decide (n2 ≤ k) = false := by simpa using hle
        have hlt2 : k < n2 := by omega
        obtain ⟨ab, aoff, rfl, hab, hac⟩ := HG.out.1 (ints_ne (by have := HN.out.1; omega))
        obtain ⟨bb, boff, rfl, hbb, hbc⟩ := HG.out.2 (ints_ne (by have := HN.out.2; omega))
        have hk1 : k < l1.length := by have := HN.out.1; omega
        have hk2 : k < l2.length := by have := HN.out.2; omega
        obtain ⟨x, hx⟩ : ∃ x, x = l1[k] := ⟨_, rfl⟩
        obtain ⟨y, hy⟩ : ∃ y, y = l2[k] := ⟨_, rfl⟩
        have q1 : wr.cell? ⟨ab, aoff + k, none⟩ = some (.int .i64 x) := by rw [hx]; exact cell_on hbr (hac k _ (ints_at l1 k hk1))
        have q2 : wr.cell? ⟨bb, boff + k, none⟩ = some (.int .i64 y) := by rw [hy]; exact cell_on hbr (hbc k _ (ints_at l2 k hk2))
        have HX : Hid (l1[k]? = some x ∧ l2[k]? = some y) := Lib.hid ⟨by rw [List.getElem?_eq_getElem hk1, hx], by rw [List.getElem?_eq_getElem hk2, hy]⟩
        clear hx hy hk1 hk2 hac hbc
        have hC : (fun W => W.cell? ⟨ab, aoff + k, none⟩ = some (.int .i64 x) ∧ W.cell? ⟨bb, boff + k, none⟩ = some (.int .i64 y)) wr.drew := ⟨q1, q2⟩
        by_cases hxy : x = y
        · subst hxy
          have hne : (x != x) = false := by simp
          go_wp2_with fail
          refine Lim.regC' (fun W => W.cell? ⟨ab, aoff + k, none⟩ = some (.int .i64 x) ∧ W.cell? ⟨bb, boff + k, none⟩ = some (.int .i64 x)) [] #[false, false, false, false, false, false, false, false, false, false, false, false, false, false, false] (by kernel_rfl) rfl ?_
          refine Lim.stepR 0 (fun _ => trivial) rfl (by kernel_rfl) (fun _ _ _ _ h => h) hC rfl ?_; apply Exists.intro; refine ⟨?_, ?_⟩
          · rintro w ⟨r1, r2⟩; go_simp; try with_reducible rfl
          simp only [Act.put, List.setIfInBounds_toArray, List.set_cons_succ, List.set_cons_zero]
          refine Lim.stepR 1 (fun _ => trivial) rfl (by kernel_rfl) (fun _ _ _ _ h => h) hC rfl ?_; apply Exists.intro; refine ⟨?_, ?_⟩
          · rintro w ⟨r1, r2⟩; go_simp; try with_reducible rfl
          simp only [Act.put, List.setIfInBounds_toArray, List.set_cons_succ, List.set_cons_zero]
          refine Lim.stepR 2 (fun _ => trivial) rfl (by kernel_rfl) (fun _ _ _ _ h => h) hC rfl ?_; apply Exists.intro; refine ⟨?_, ?_⟩
          · rintro w ⟨r1, r2⟩; go_simp; try with_reducible rfl
          simp only [Act.put, List.setIfInBounds_toArray, List.set_cons_succ, List.set_cons_zero]
          refine Lim.stepR 3 (fun _ => trivial) rfl (by kernel_rfl) (fun _ _ _ _ h => h) hC rfl ?_; apply Exists.intro; refine ⟨?_, ?_⟩
          · rintro w ⟨r1, r2⟩; go_simp; try with_reducible rfl
          simp only [Act.put, List.setIfInBounds_toArray, List.set_cons_succ, List.set_cons_zero]
          refine Lim.stepR 4 (fun _ => trivial) rfl (by kernel_rfl) (fun _ _ _ _ h => h) hC rfl ?_; apply Exists.intro; refine ⟨?_, ?_⟩
          · rintro w ⟨r1, r2⟩; go_simp; try with_reducible rfl
          simp only [Act.put, List.setIfInBounds_toArray, List.set_cons_succ, List.set_cons_zero]
          refine Lim.stepR 5 (fun _ => trivial) rfl (by kernel_rfl) (fun _ _ _ _ h => h) hC rfl ?_; apply Exists.intro; refine ⟨?_, ?_⟩
          · rintro w ⟨r1, r2⟩; go_simp; try with_reducible rfl
          simp only [Act.put, List.setIfInBounds_toArray, List.set_cons_succ, List.set_cons_zero]
          refine Lim.stepR 6 (fun _ => trivial) rfl (by kernel_rfl) (fun _ _ _ _ h => h) hC rfl ?_; apply Exists.intro; refine ⟨?_, ?_⟩
          · rintro w ⟨r1, r2⟩; go_simp; try with_reducible rfl
          simp only [Act.put, List.setIfInBounds_toArray, List.set_cons_succ, List.set_cons_zero]
          refine Lim.stepR 7 (fun _ => trivial) rfl (by kernel_rfl) (fun _ _ _ _ h => h) hC rfl ?_; apply Exists.intro; refine ⟨?_, ?_⟩
          · rintro w ⟨r1, r2⟩; go_simp; try with_reducible rfl
          simp only [Act.put, List.setIfInBounds_toArray, List.set_cons_succ, List.set_cons_zero]
          refine Lim.stepR 8 (fun _ => trivial) rfl (by kernel_rfl) (fun _ _ _ _ h => h) hC rfl ?_; apply Exists.intro; refine ⟨?_, ?_⟩
          · rintro w ⟨r1, r2⟩; go_simp; try with_reducible rfl
          simp only [Act.put, List.setIfInBounds_toArray, List.set_cons_succ, List.set_cons_zero]
          refine Lim.stepR 9 (fun _ => trivial) rfl (by kernel_rfl) (fun _ _ _ _ h => h) hC rfl ?_; apply Exists.intro; refine ⟨?_, ?_⟩
          · rintro w ⟨r1, r2⟩; go_simp; try with_reducible rfl
          simp only [Act.put, List.setIfInBounds_toArray, List.set_cons_succ, List.set_cons_zero]
          refine Lim.stepR 10 (fun _ => trivial) rfl (by kernel_rfl) (fun _ _ _ _ h => h) hC rfl ?_; apply Exists.intro; refine ⟨?_, ?_⟩
          · rintro w ⟨r1, r2⟩; go_simp; try with_reducible rfl
          simp only [Act.put, List.setIfInBounds_toArray, List.set_cons_succ, List.set_cons_zero]
          refine Lim.stepR 11 (fun _ => trivial) rfl (by kernel_rfl) (fun _ _ _ _ h => h) hC rfl ?_; apply Exists.intro; refine ⟨?_, ?_⟩
          · rintro w ⟨r1, r2⟩; go_simp; try with_reducible rfl
          simp only [Act.put, List.setIfInBounds_toArray, List.set_cons_succ, List.set_cons_zero]
          refine Lim.stepR 12 (fun _ => trivial) rfl (by kernel_rfl) (fun _ _ _ _ h => h) hC rfl ?_; apply Exists.intro; refine ⟨?_, ?_⟩
          · rintro w ⟨r1, r2⟩; go_simp; try with_reducible rfl
          simp only [Act.put, List.setIfInBounds_toArray, List.set_cons_succ, List.set_cons_zero]
          refine Lim.stepR 13 (fun _ => trivial) rfl (by kernel_rfl) (fun _ _ _ _ h => h) hC rfl ?_; apply Exists.intro; refine ⟨?_, ?_⟩
          · rintro w ⟨r1, r2⟩; go_simp; try with_reducible rfl
          simp only [Act.put, List.setIfInBounds_toArray, List.set_cons_succ, List.set_cons_zero]
          refine Lim.stepR 14 (fun _ => trivial) rfl (by kernel_rfl) (fun _ _ _ _ h => h) hC rfl ?_; apply Exists.intro; refine ⟨?_, ?_⟩
          · rintro w ⟨r1, r2⟩; go_simp; try with_reducible rfl
          simp only [Act.put, List.setIfInBounds_toArray, List.set_cons_succ, List.set_cons_zero]
          refine Lim.stepD (by kernel_rfl) ?_
          clear hC q1 q2
          go_wp2
          go_roundw
          case rel =>
            refine ⟨k + 1, by omega, by go_num, Lib.hid ⟨by omega, fun j hj => ?_⟩, hbr.drew⟩
            by_cases e : j = k
            · subst e; rw [HX.out.1, HX.out.2]
            · exact hP.out.2 j (by omega)
          case measure => simp [intOf]; omega
        · have HXY := Lib.hid hxy
          have hne : (x != y) = true := by simpa using hxy
          go_wp2_with fail
          refine Lim.regC' (fun W => W.cell? ⟨ab, aoff + k, none⟩ = some (.int .i64 x) ∧ W.cell? ⟨bb, boff + k, none⟩ = some (.int .i64 y)) [] #[false, false, false, false, false, false, false, false, false, false, false, false, false, false, false] (by kernel_rfl) rfl ?_
          refine Lim.stepR 0 (fun _ => trivial) rfl (by kernel_rfl) (fun _ _ _ _ h => h) hC rfl ?_; apply Exists.intro; refine ⟨?_, ?_⟩
          · rintro w ⟨r1, r2⟩; go_simp; try with_reducible rfl
          simp only [Act.put, List.setIfInBounds_toArray, List.set_cons_succ, List.set_cons_zero]
          refine Lim.stepR 1 (fun _ => trivial) rfl (by kernel_rfl) (fun _ _ _ _ h => h) hC rfl ?_; apply Exists.intro; refine ⟨?_, ?_⟩
          · rintro w ⟨r1, r2⟩; go_simp; try with_reducible rfl
          simp only [Act.put, List.setIfInBounds_toArray, List.set_cons_succ, List.set_cons_zero]
          refine Lim.stepR 2 (fun _ => trivial) rfl (by kernel_rfl) (fun _ _ _ _ h => h) hC rfl ?_; apply Exists.intro; refine ⟨?_, ?_⟩
          · rintro w ⟨r1, r2⟩; go_simp; try with_reducible rfl
          simp only [Act.put, List.setIfInBounds_toArray, List.set_cons_succ, List.set_cons_zero]
          refine Lim.stepR 3 (fun _ => trivial) rfl (by kernel_rfl) (fun _ _ _ _ h => h) hC rfl ?_; apply Exists.intro; refine ⟨?_, ?_⟩
          · rintro w ⟨r1, r2⟩; go_simp; try with_reducible rfl
          simp only [Act.put, List.setIfInBounds_toArray, List.set_cons_succ, List.set_cons_zero]
          refine Lim.stepR 4 (fun _ => trivial) rfl (by kernel_rfl) (fun _ _ _ _ h => h) hC rfl ?_; apply Exists.intro; refine ⟨?_, ?_⟩
          · rintro w ⟨r1, r2⟩; go_simp; try with_reducible rfl
          simp only [Act.put, List.setIfInBounds_toArray, List.set_cons_succ, List.set_cons_zero]
          refine Lim.stepR 5 (fun _ => trivial) rfl (by kernel_rfl) (fun _ _ _ _ h => h) hC rfl ?_; apply Exists.intro; refine ⟨?_, ?_⟩
          · rintro w ⟨r1, r2⟩; go_simp; try with_reducible rfl
          simp only [Act.put, List.setIfInBounds_toArray, List.set_cons_succ, List.set_cons_zero]
          refine Lim.stepR 6 (fun _ => trivial) rfl (by kernel_rfl) (fun _ _ _ _ h => h) hC rfl ?_; apply Exists.intro; refine ⟨?_, ?_⟩
          · rintro w ⟨r1, r2⟩; go_simp; try with_reducible rfl
          simp only [Act.put, List.setIfInBounds_toArray, List.set_cons_succ, List.set_cons_zero]
          refine Lim.stepR 7 (fun _ => trivial) rfl (by kernel_rfl) (fun _ _ _ _ h => h) hC rfl ?_; apply Exists.intro; refine ⟨?_, ?_⟩
          · rintro w ⟨r1, r2⟩; go_simp; try with_reducible rfl
          simp only [Act.put, List.setIfInBounds_toArray, List.set_cons_succ, List.set_cons_zero]
          refine Lim.stepR 8 (fun _ => trivial) rfl (by kernel_rfl) (fun _ _ _ _ h => h) hC rfl ?_; apply Exists.intro; refine ⟨?_, ?_⟩
          · rintro w ⟨r1, r2⟩; go_simp; try with_reducible rfl
          simp only [Act.put, List.setIfInBounds_toArray, List.set_cons_succ, List.set_cons_zero]
          refine Lim.stepR 9 (fun _ => trivial) rfl (by kernel_rfl) (fun _ _ _ _ h => h) hC rfl ?_; apply Exists.intro; refine ⟨?_, ?_⟩
          · rintro w ⟨r1, r2⟩; go_simp; try with_reducible rfl
          simp only [Act.put, List.setIfInBounds_toArray, List.set_cons_succ, List.set_cons_zero]
          refine Lim.stepR 10 (fun _ => trivial) rfl (by kernel_rfl) (fun _ _ _ _ h => h) hC rfl ?_; apply Exists.intro; refine ⟨?_, ?_⟩
          · rintro w ⟨r1, r2⟩; go_simp; try with_reducible rfl
          simp only [Act.put, List.setIfInBounds_toArray, List.set_cons_succ, List.set_cons_zero]
          refine Lim.stepR 11 (fun _ => trivial) rfl (by kernel_rfl) (fun _ _ _ _ h => h) hC rfl ?_; apply Exists.intro; refine ⟨?_, ?_⟩
          · rintro w ⟨r1, r2⟩; go_simp; try with_reducible rfl
          simp only [Act.put, List.setIfInBounds_toArray, List.set_cons_succ, List.set_cons_zero]
          refine Lim.stepR 12 (fun _ => trivial) rfl (by kernel_rfl) (fun _ _ _ _ h => h) hC rfl ?_; apply Exists.intro; refine ⟨?_, ?_⟩
          · rintro w ⟨r1, r2⟩; go_simp; try with_reducible rfl
          simp only [Act.put, List.setIfInBounds_toArray, List.set_cons_succ, List.set_cons_zero]
          refine Lim.stepR 13 (fun _ => trivial) rfl (by kernel_rfl) (fun _ _ _ _ h => h) hC rfl ?_; apply Exists.intro; refine ⟨?_, ?_⟩
          · rintro w ⟨r1, r2⟩; go_simp; try with_reducible rfl
          simp only [Act.put, List.setIfInBounds_toArray, List.set_cons_succ, List.set_cons_zero]
          refine Lim.stepR 14 (fun _ => trivial) rfl (by kernel_rfl) (fun _ _ _ _ h => h) hC rfl ?_; apply Exists.intro; refine ⟨?_, ?_⟩
          · rintro w ⟨r1, r2⟩; go_simp; try with_reducible rfl
          simp only [Act.put, List.setIfInBounds_toArray, List.set_cons_succ, List.set_cons_zero]
          refine Lim.stepD (by kernel_rfl) ?_
          clear hC q1 q2
          go_wp2
          go_ret
          exact ⟨by rw [show decide (l1 = l2) = false from decide_eq_false (fun e => by have h3 := HX.out.1; rw [e, HX.out.2] at h3; cases h3; exact HXY.out rfl)]; rfl, hbr.drew⟩
    · obtain rfl : k = n1 := by omega
      by_cases he : k = n2
      · subst he
        have hb : decide (l1 = l2) = true := by rw [decide_eq_true_eq]; exact list_eq_of hP.out.2 HN.out.1 (by have h3 := HN.out.1; have h4 := HN.out.2; omega)
        have HB := Lib.hid hb
        clear hb
        go_wp2
        go_ret
        exact ⟨by rw [HB.out]; rfl, hbr⟩
      · have he1 : ((k : Int) == (n2 : Int)) = false := by rw [beq_eq_false_iff_ne]; omega
        have hb : decide (l1 = l2) = false := by rw [decide_eq_false_iff_not]; intro e; have h3 := HN.out.1; have h4 := HN.out.2; rw [e] at h3; omega
        have HB := Lib.hid hb
        clear hb
        go_wp2
        go_ret
        exact ⟨by rw [HB.out]; rfl, hbr⟩

set_option maxRecDepth 100000 in
set_option maxHeartbeats 1000000 in
theorem equal_spans {B1 B2 : Nat} {v1 v2 : Value} {l1 l2 : List (Int × Int)} {w : World} (hn : l1.length ≤ 1000) (h1 : RS B1 w v1 l1.length (spans l1)) (h2 : RS B2 w v2 l2.length (spans l2)) :
    Calls Try.prog 43 #[v1, v2] w fun e w' => e = .returned (.bool (decide (l1 = l2))) ∧ Below w.heap.size w w' := by
  obtain ⟨a1, c1, rfl, g1⟩ := h1
  obtain ⟨a2, c2, rfl, g2⟩ := h2
  have HG := Lib.hid (And.intro g1 g2)
  clear g1 g2
  obtain ⟨n2, hn2⟩ : ∃ n2, n2 = l2.length := ⟨_, rfl⟩
  obtain ⟨n1, hn1⟩ : ∃ n1, n1 = l1.length := ⟨_, rfl⟩
  rw [← hn2]
  rw [← hn1] at hn ⊢
  have HN := Lib.hid (And.intro hn1 hn2)
  clear hn1 hn2
  go_enter Try.func43, Try.ntmps43
  go_wp2_with fail
  go_loopw [8] (fun i wr => ∃ k : Nat, k ≤ n1 ∧ i = .int .i64 k ∧ Hid (k ≤ n2 ∧ ∀ j, j < k → l1[j]? = l2[j]?) ∧ Below w.heap.size w wr) (fun i _ => n1 - (intOf i).toNat)
  case atStart => exact ⟨0, Nat.zero_le _, rfl, Lib.hid ⟨Nat.zero_le _, fun j h => by omega⟩, Below.refl _ _⟩
  case round =>
    obtain ⟨k, hk, rfl, hP, hbr⟩ := hrel
    by_cases hlt : k < n1
    · have hkb : (k : Int) < 1000 := by omega
      by_cases hle : n2 ≤ k
      · have hd : decide (n2 ≤ k) = true := by simpa using hle
        have hC : (fun _ : World => True) wr.drew := trivial
        go_wp2_with fail
        refine Lim.regC' (fun _ => True) [] #[false, false, false, false, false, false, false, false, false, false, false, false, false, false, false] (by kernel_rfl) rfl ?_
        refine Lim.stepR 0 (fun _ => trivial) rfl (by kernel_rfl) (fun _ _ _ _ h => h) hC rfl ?_; apply Exists.intro; refine ⟨?_, ?_⟩
        · rintro w _; go_simp; try with_reducible rfl
        simp only [Act.put, List.setIfInBounds_toArray, List.set_cons_succ, List.set_cons_zero]
        refine Lim.stepR 1 (fun _ => trivial) rfl (by kernel_rfl) (fun _ _ _ _ h => h) hC rfl ?_; apply Exists.intro; refine ⟨?_, ?_⟩
        · rintro w _; go_simp; try with_reducible rfl
        simp only [Act.put, List.setIfInBounds_toArray, List.set_cons_succ, List.set_cons_zero]
        refine Lim.stepR 2 (fun _ => trivial) rfl (by kernel_rfl) (fun _ _ _ _ h => h) hC rfl ?_; apply Exists.intro; refine ⟨?_, ?_⟩
        · rintro w _; go_simp; try with_reducible rfl
        simp only [Act.put, List.setIfInBounds_toArray, List.set_cons_succ, List.set_cons_zero]
        refine Lim.stepR 3 (fun _ => trivial) rfl (by kernel_rfl) (fun _ _ _ _ h => h) hC rfl ?_; apply Exists.intro; refine ⟨?_, ?_⟩
        · rintro w _; go_simp; try with_reducible rfl
        simp only [Act.put, List.setIfInBounds_toArray, List.set_cons_succ, List.set_cons_zero]
        refine Lim.stepR 4 (fun _ => trivial) rfl (by kernel_rfl) (fun _ _ _ _ h => h) hC rfl ?_; apply Exists.intro; refine ⟨?_, ?_⟩
        · rintro w _; go_simp; try with_reducible rfl
        simp only [Act.put, List.setIfInBounds_toArray, List.set_cons_succ, List.set_cons_zero]
        refine Lim.stepS 5 (fun _ => trivial) rfl (by kernel_rfl) (fun _ _ _ _ h => h) hC rfl ?_
        simp only [Act.put, List.setIfInBounds_toArray, List.set_cons_succ, List.set_cons_zero]
        refine Lim.stepS 6 (fun _ => trivial) rfl (by kernel_rfl) (fun _ _ _ _ h => h) hC rfl ?_
        simp only [Act.put, List.setIfInBounds_toArray, List.set_cons_succ, List.set_cons_zero]
        refine Lim.stepS 7 (fun _ => trivial) rfl (by kernel_rfl) (fun _ _ _ _ h => h) hC rfl ?_
        simp only [Act.put, List.setIfInBounds_toArray, List.set_cons_succ, List.set_cons_zero]
        refine Lim.stepS 8 (fun _ => trivial) rfl (by kernel_rfl) (fun _ _ _ _ h => h) hC rfl ?_
        simp only [Act.put, List.setIfInBounds_toArray, List.set_cons_succ, List.set_cons_zero]
        refine Lim.stepS 9 (fun _ => trivial) rfl (by kernel_rfl) (fun _ _ _ _ h => h) hC rfl ?_
        simp only [Act.put, List.setIfInBounds_toArray, List.set_cons_succ, List.set_cons_zero]
        refine Lim.stepS 10 (fun _ => trivial) rfl (by kernel_rfl) (fun _ _ _ _ h => h) hC rfl ?_
        simp only [Act.put, List.setIfInBounds_toArray, List.set_cons_succ, List.set_cons_zero]
        refine Lim.stepS 11 (fun _ => trivial) rfl (by kernel_rfl) (fun _ _ _ _ h => h) hC rfl ?_
        simp only [Act.put, List.setIfInBounds_toArray, List.set_cons_succ, List.set_cons_zero]
        refine Lim.stepS 12 (fun _ => trivial) rfl (by kernel_rfl) (fun _ _ _ _ h => h) hC rfl ?_
        simp only [Act.put, List.setIfInBounds_toArray, List.set_cons_succ, List.set_cons_zero]
        refine Lim.stepS 13 (fun _ => trivial) rfl (by kernel_rfl) (fun _ _ _ _ h => h) hC rfl ?_
        simp only [Act.put, List.setIfInBounds_toArray, List.set_cons_succ, List.set_cons_zero]
        refine Lim.stepR 14 (fun _ => trivial) rfl (by kernel_rfl) (fun _ _ _ _ h => h) hC rfl ?_; apply Exists.intro; refine ⟨?_, ?_⟩
        · rintro w _; go_simp; try with_reducible rfl
        simp only [Act.put, List.setIfInBounds_toArray, List.set_cons_succ, List.set_cons_zero]
        refine Lim.stepD (by kernel_rfl) ?_
        clear hC
        go_wp2
        go_ret
        exact ⟨by rw [show decide (l1 = l2) = false from decide_eq_false (fun e => by have h3 := HN.out.1; have h4 := HN.out.2; rw [e] at h3; omega)]; rfl, hbr.drew⟩
      · have hd : decide (n2 ≤ k) = false := by simpa using hle
        have hlt2 : k < n2 := by omega
        obtain ⟨ab, aoff, rfl, hab, hac⟩ := HG.out.1 (spans_ne (by have := HN.out.1; omega))
        obtain ⟨bb, boff, rfl, hbb, hbc⟩ := HG.out.2 (spans_ne (by have := HN.out.2; omega))
        have hk1 : k < l1.length := by have := HN.out.1; omega
        have hk2 : k < l2.length := by have := HN.out.2; omega
        obtain ⟨x, hx⟩ : ∃ x, x = l1[k] := ⟨_, rfl⟩
        obtain ⟨y, hy⟩ : ∃ y, y = l2[k] := ⟨_, rfl⟩
        have q1 : wr.cell? ⟨ab, aoff + k * 2, none⟩ = some (.int .i64 x.1) := by rw [hx]; exact cell_on hbr (hac _ _ (spans_lo l1 k hk1))
        have q2 : wr.cell? ⟨ab, aoff + k * 2 + 1, none⟩ = some (.int .i64 x.2) := by rw [hx]; exact cell_on hbr (hac _ _ (spans_hi l1 k hk1))
        have q3 : wr.cell? ⟨bb, boff + k * 2, none⟩ = some (.int .i64 y.1) := by rw [hy]; exact cell_on hbr (hbc _ _ (spans_lo l2 k hk2))
        have q4 : wr.cell? ⟨bb, boff + k * 2 + 1, none⟩ = some (.int .i64 y.2) := by rw [hy]; exact cell_on hbr (hbc _ _ (spans_hi l2 k hk2))
        have HX : Hid (l1[k]? = some x ∧ l2[k]? = some y) := Lib.hid ⟨by rw [List.getElem?_eq_getElem hk1, hx], by rw [List.getElem?_eq_getElem hk2, hy]⟩
        clear hx hy hk1 hk2 hac hbc
        have hC : (fun W => W.cell? ⟨ab, aoff + k * 2, none⟩ = some (.int .i64 x.1) ∧ W.cell? ⟨ab, aoff + k * 2 + 1, none⟩ = some (.int .i64 x.2) ∧ W.cell? ⟨bb, boff + k * 2, none⟩ = some (.int .i64 y.1) ∧ W.cell? ⟨bb, boff + k * 2 + 1, none⟩ = some (.int .i64 y.2)) wr.drew := ⟨q1, q2, q3, q4⟩
        by_cases hxy : x = y
        · subst hxy
          skip
          go_wp2_with fail
          refine Lim.regC' (fun W => W.cell? ⟨ab, aoff + k * 2, none⟩ = some (.int .i64 x.1) ∧ W.cell? ⟨ab, aoff + k * 2 + 1, none⟩ = some (.int .i64 x.2) ∧ W.cell? ⟨bb, boff + k * 2, none⟩ = some (.int .i64 x.1) ∧ W.cell? ⟨bb, boff + k * 2 + 1, none⟩ = some (.int .i64 x.2)) [] #[false, false, false, false, false, false, false, false, false, false, false, false, false, false, false] (by kernel_rfl) rfl ?_
          refine Lim.stepR 0 (fun _ => trivial) rfl (by kernel_rfl) (fun _ _ _ _ h => h) hC rfl ?_; apply Exists.intro; refine ⟨?_, ?_⟩
          · rintro w ⟨r1, r2, r3, r4⟩; go_simp; try with_reducible rfl
          simp only [Act.put, List.setIfInBounds_toArray, List.set_cons_succ, List.set_cons_zero]
          refine Lim.stepR 1 (fun _ => trivial) rfl (by kernel_rfl) (fun _ _ _ _ h => h) hC rfl ?_; apply Exists.intro; refine ⟨?_, ?_⟩
          · rintro w ⟨r1, r2, r3, r4⟩; go_simp; try with_reducible rfl
          simp only [Act.put, List.setIfInBounds_toArray, List.set_cons_succ, List.set_cons_zero]
          refine Lim.stepR 2 (fun _ => trivial) rfl (by kernel_rfl) (fun _ _ _ _ h => h) hC rfl ?_; apply Exists.intro; refine ⟨?_, ?_⟩
          · rintro w ⟨r1, r2, r3, r4⟩; go_simp; try with_reducible rfl
          simp only [Act.put, List.setIfInBounds_toArray, List.set_cons_succ, List.set_cons_zero]
          refine Lim.stepR 3 (fun _ => trivial) rfl (by kernel_rfl) (fun _ _ _ _ h => h) hC rfl ?_; apply Exists.intro; refine ⟨?_, ?_⟩
          · rintro w ⟨r1, r2, r3, r4⟩; go_simp; try with_reducible rfl
          simp only [Act.put, List.setIfInBounds_toArray, List.set_cons_succ, List.set_cons_zero]
          refine Lim.stepR 4 (fun _ => trivial) rfl (by kernel_rfl) (fun _ _ _ _ h => h) hC rfl ?_; apply Exists.intro; refine ⟨?_, ?_⟩
          · rintro w ⟨r1, r2, r3, r4⟩; go_simp; try with_reducible rfl
          simp only [Act.put, List.setIfInBounds_toArray, List.set_cons_succ, List.set_cons_zero]
          refine Lim.stepR 5 (fun _ => trivial) rfl (by kernel_rfl) (fun _ _ _ _ h => h) hC rfl ?_; apply Exists.intro; refine ⟨?_, ?_⟩
          · rintro w ⟨r1, r2, r3, r4⟩; go_simp; try with_reducible rfl
          simp only [Act.put, List.setIfInBounds_toArray, List.set_cons_succ, List.set_cons_zero]
          refine Lim.stepR 6 (fun _ => trivial) rfl (by kernel_rfl) (fun _ _ _ _ h => h) hC rfl ?_; apply Exists.intro; refine ⟨?_, ?_⟩
          · rintro w ⟨r1, r2, r3, r4⟩; go_simp; try with_reducible rfl
          simp only [Act.put, List.setIfInBounds_toArray, List.set_cons_succ, List.set_cons_zero]
          refine Lim.stepR 7 (fun _ => trivial) rfl (by kernel_rfl) (fun _ _ _ _ h => h) hC rfl ?_; apply Exists.intro; refine ⟨?_, ?_⟩
          · rintro w ⟨r1, r2, r3, r4⟩; go_simp; try with_reducible rfl
          simp only [Act.put, List.setIfInBounds_toArray, List.set_cons_succ, List.set_cons_zero]
          refine Lim.stepR 8 (fun _ => trivial) rfl (by kernel_rfl) (fun _ _ _ _ h => h) hC rfl ?_; apply Exists.intro; refine ⟨?_, ?_⟩
          · rintro w ⟨r1, r2, r3, r4⟩; go_simp; try with_reducible rfl
          simp only [Act.put, List.setIfInBounds_toArray, List.set_cons_succ, List.set_cons_zero]
          refine Lim.stepR 9 (fun _ => trivial) rfl (by kernel_rfl) (fun _ _ _ _ h => h) hC rfl ?_; apply Exists.intro; refine ⟨?_, ?_⟩
          · rintro w ⟨r1, r2, r3, r4⟩; go_simp; try with_reducible rfl
          simp only [Act.put, List.setIfInBounds_toArray, List.set_cons_succ, List.set_cons_zero]
          refine Lim.stepR 10 (fun _ => trivial) rfl (by kernel_rfl) (fun _ _ _ _ h => h) hC rfl ?_; apply Exists.intro; refine ⟨?_, ?_⟩
          · rintro w ⟨r1, r2, r3, r4⟩; go_simp; try with_reducible rfl
          simp only [Act.put, List.setIfInBounds_toArray, List.set_cons_succ, List.set_cons_zero]
          refine Lim.stepR 11 (fun _ => trivial) rfl (by kernel_rfl) (fun _ _ _ _ h => h) hC rfl ?_; apply Exists.intro; refine ⟨?_, ?_⟩
          · rintro w ⟨r1, r2, r3, r4⟩; go_simp; try with_reducible rfl
          simp only [Act.put, List.setIfInBounds_toArray, List.set_cons_succ, List.set_cons_zero]
          refine Lim.stepR 12 (fun _ => trivial) rfl (by kernel_rfl) (fun _ _ _ _ h => h) hC rfl ?_; apply Exists.intro; refine ⟨?_, ?_⟩
          · rintro w ⟨r1, r2, r3, r4⟩; go_simp; try with_reducible rfl
          simp only [Act.put, List.setIfInBounds_toArray, List.set_cons_succ, List.set_cons_zero]
          refine Lim.stepR 13 (fun _ => trivial) rfl (by kernel_rfl) (fun _ _ _ _ h => h) hC rfl ?_; apply Exists.intro; refine ⟨?_, ?_⟩
          · rintro w ⟨r1, r2, r3, r4⟩; go_simp; try with_reducible rfl
          simp only [Act.put, List.setIfInBounds_toArray, List.set_cons_succ, List.set_cons_zero]
          refine Lim.stepR 14 (fun _ => trivial) rfl (by kernel_rfl) (fun _ _ _ _ h => h) hC rfl ?_; apply Exists.intro; refine ⟨?_, ?_⟩
          · rintro w ⟨r1, r2, r3, r4⟩; go_simp; try with_reducible rfl
          simp only [Act.put, List.setIfInBounds_toArray, List.set_cons_succ, List.set_cons_zero]
          refine Lim.stepD (by kernel_rfl) ?_
          clear hC q1 q2 q3 q4
          go_wp2
          go_roundw
          case rel =>
            refine ⟨k + 1, by omega, by go_num, Lib.hid ⟨by omega, fun j hj => ?_⟩, hbr.drew⟩
            by_cases e : j = k
            · subst e; rw [HX.out.1, HX.out.2]
            · exact hP.out.2 j (by omega)
          case measure => simp [intOf]; omega
        · have HXY := Lib.hid hxy
          clear hxy
          by_cases e0 : x.1 = y.1
          · skip
            have e1 : ¬ x.2 = y.2 := fun h => HXY.out (by exact Prod.ext e0 h)
            go_wp2_with fail
            refine Lim.regC' (fun W => W.cell? ⟨ab, aoff + k * 2, none⟩ = some (.int .i64 x.1) ∧ W.cell? ⟨ab, aoff + k * 2 + 1, none⟩ = some (.int .i64 x.2) ∧ W.cell? ⟨bb, boff + k * 2, none⟩ = some (.int .i64 y.1) ∧ W.cell? ⟨bb, boff + k * 2 + 1, none⟩ = some (.int .i64 y.2)) [] #[false, false, false, false, false, false, false, false, false, false, false, false, false, false, false] (by kernel_rfl) rfl ?_
            refine Lim.stepR 0 (fun _ => trivial) rfl (by kernel_rfl) (fun _ _ _ _ h => h) hC rfl ?_; apply Exists.intro; refine ⟨?_, ?_⟩
            · rintro w ⟨r1, r2, r3, r4⟩; go_simp; try with_reducible rfl
            simp only [Act.put, List.setIfInBounds_toArray, List.set_cons_succ, List.set_cons_zero]
            refine Lim.stepR 1 (fun _ => trivial) rfl (by kernel_rfl) (fun _ _ _ _ h => h) hC rfl ?_; apply Exists.intro; refine ⟨?_, ?_⟩
            · rintro w ⟨r1, r2, r3, r4⟩; go_simp; try with_reducible rfl
            simp only [Act.put, List.setIfInBounds_toArray, List.set_cons_succ, List.set_cons_zero]
            refine Lim.stepR 2 (fun _ => trivial) rfl (by kernel_rfl) (fun _ _ _ _ h => h) hC rfl ?_; apply Exists.intro; refine ⟨?_, ?_⟩
            · rintro w ⟨r1, r2, r3, r4⟩; go_simp; try with_reducible rfl
            simp only [Act.put, List.setIfInBounds_toArray, List.set_cons_succ, List.set_cons_zero]
            refine Lim.stepR 3 (fun _ => trivial) rfl (by kernel_rfl) (fun _ _ _ _ h => h) hC rfl ?_; apply Exists.intro; refine ⟨?_, ?_⟩
            · rintro w ⟨r1, r2, r3, r4⟩; go_simp; try with_reducible rfl
            simp only [Act.put, List.setIfInBounds_toArray, List.set_cons_succ, List.set_cons_zero]
            refine Lim.stepR 4 (fun _ => trivial) rfl (by kernel_rfl) (fun _ _ _ _ h => h) hC rfl ?_; apply Exists.intro; refine ⟨?_, ?_⟩
            · rintro w ⟨r1, r2, r3, r4⟩; go_simp; try with_reducible rfl
            simp only [Act.put, List.setIfInBounds_toArray, List.set_cons_succ, List.set_cons_zero]
            refine Lim.stepR 5 (fun _ => trivial) rfl (by kernel_rfl) (fun _ _ _ _ h => h) hC rfl ?_; apply Exists.intro; refine ⟨?_, ?_⟩
            · rintro w ⟨r1, r2, r3, r4⟩; go_simp; try with_reducible rfl
            simp only [Act.put, List.setIfInBounds_toArray, List.set_cons_succ, List.set_cons_zero]
            refine Lim.stepR 6 (fun _ => trivial) rfl (by kernel_rfl) (fun _ _ _ _ h => h) hC rfl ?_; apply Exists.intro; refine ⟨?_, ?_⟩
            · rintro w ⟨r1, r2, r3, r4⟩; go_simp; try with_reducible rfl
            simp only [Act.put, List.setIfInBounds_toArray, List.set_cons_succ, List.set_cons_zero]
            refine Lim.stepR 7 (fun _ => trivial) rfl (by kernel_rfl) (fun _ _ _ _ h => h) hC rfl ?_; apply Exists.intro; refine ⟨?_, ?_⟩
            · rintro w ⟨r1, r2, r3, r4⟩; go_simp; try with_reducible rfl
            simp only [Act.put, List.setIfInBounds_toArray, List.set_cons_succ, List.set_cons_zero]
            refine Lim.stepR 8 (fun _ => trivial) rfl (by kernel_rfl) (fun _ _ _ _ h => h) hC rfl ?_; apply Exists.intro; refine ⟨?_, ?_⟩
            · rintro w ⟨r1, r2, r3, r4⟩; go_simp; try with_reducible rfl
            simp only [Act.put, List.setIfInBounds_toArray, List.set_cons_succ, List.set_cons_zero]
            refine Lim.stepR 9 (fun _ => trivial) rfl (by kernel_rfl) (fun _ _ _ _ h => h) hC rfl ?_; apply Exists.intro; refine ⟨?_, ?_⟩
            · rintro w ⟨r1, r2, r3, r4⟩; go_simp; try with_reducible rfl
            simp only [Act.put, List.setIfInBounds_toArray, List.set_cons_succ, List.set_cons_zero]
            refine Lim.stepR 10 (fun _ => trivial) rfl (by kernel_rfl) (fun _ _ _ _ h => h) hC rfl ?_; apply Exists.intro; refine ⟨?_, ?_⟩
            · rintro w ⟨r1, r2, r3, r4⟩; go_simp; try with_reducible rfl
            simp only [Act.put, List.setIfInBounds_toArray, List.set_cons_succ, List.set_cons_zero]
            refine Lim.stepR 11 (fun _ => trivial) rfl (by kernel_rfl) (fun _ _ _ _ h => h) hC rfl ?_; apply Exists.intro; refine ⟨?_, ?_⟩
            · rintro w ⟨r1, r2, r3, r4⟩; go_simp; try with_reducible rfl
            simp only [Act.put, List.setIfInBounds_toArray, List.set_cons_succ, List.set_cons_zero]
            refine Lim.stepR 12 (fun _ => trivial) rfl (by kernel_rfl) (fun _ _ _ _ h => h) hC rfl ?_; apply Exists.intro; refine ⟨?_, ?_⟩
            · rintro w ⟨r1, r2, r3, r4⟩; go_simp; try with_reducible rfl
            simp only [Act.put, List.setIfInBounds_toArray, List.set_cons_succ, List.set_cons_zero]
            refine Lim.stepR 13 (fun _ => trivial) rfl (by kernel_rfl) (fun _ _ _ _ h => h) hC rfl ?_; apply Exists.intro; refine ⟨?_, ?_⟩
            · rintro w ⟨r1, r2, r3, r4⟩; go_simp; try with_reducible rfl
            simp only [Act.put, List.setIfInBounds_toArray, List.set_cons_succ, List.set_cons_zero]
            refine Lim.stepR 14 (fun _ => trivial) rfl (by kernel_rfl) (fun _ _ _ _ h => h) hC rfl ?_; apply Exists.intro; refine ⟨?_, ?_⟩
            · rintro w ⟨r1, r2, r3, r4⟩; go_simp; try with_reducible rfl
            simp only [Act.put, List.setIfInBounds_toArray, List.set_cons_succ, List.set_cons_zero]
            refine Lim.stepD (by kernel_rfl) ?_
            clear hC q1 q2 q3 q4
            go_wp2
            go_ret
            exact ⟨by rw [show decide (l1 = l2) = false from decide_eq_false (fun e => by have h3 := HX.out.1; rw [e, HX.out.2] at h3; cases h3; exact HXY.out rfl)]; rfl, hbr.drew⟩
          · go_wp2_with fail
            refine Lim.regC' (fun W => W.cell? ⟨ab, aoff + k * 2, none⟩ = some (.int .i64 x.1) ∧ W.cell? ⟨ab, aoff + k * 2 + 1, none⟩ = some (.int .i64 x.2) ∧ W.cell? ⟨bb, boff + k * 2, none⟩ = some (.int .i64 y.1) ∧ W.cell? ⟨bb, boff + k * 2 + 1, none⟩ = some (.int .i64 y.2)) [] #[false, false, false, false, false, false, false, false, false, false, false, false, false, false, false] (by kernel_rfl) rfl ?_
            refine Lim.stepR 0 (fun _ => trivial) rfl (by kernel_rfl) (fun _ _ _ _ h => h) hC rfl ?_; apply Exists.intro; refine ⟨?_, ?_⟩
            · rintro w ⟨r1, r2, r3, r4⟩; go_simp; try with_reducible rfl
            simp only [Act.put, List.setIfInBounds_toArray, List.set_cons_succ, List.set_cons_zero]
            refine Lim.stepR 1 (fun _ => trivial) rfl (by kernel_rfl) (fun _ _ _ _ h => h) hC rfl ?_; apply Exists.intro; refine ⟨?_, ?_⟩
            · rintro w ⟨r1, r2, r3, r4⟩; go_simp; try with_reducible rfl
            simp only [Act.put, List.setIfInBounds_toArray, List.set_cons_succ, List.set_cons_zero]
            refine Lim.stepR 2 (fun _ => trivial) rfl (by kernel_rfl) (fun _ _ _ _ h => h) hC rfl ?_; apply Exists.intro; refine ⟨?_, ?_⟩
            · rintro w ⟨r1, r2, r3, r4⟩; go_simp; try with_reducible rfl
            simp only [Act.put, List.setIfInBounds_toArray, List.set_cons_succ, List.set_cons_zero]
            refine Lim.stepR 3 (fun _ => trivial) rfl (by kernel_rfl) (fun _ _ _ _ h => h) hC rfl ?_; apply Exists.intro; refine ⟨?_, ?_⟩
            · rintro w ⟨r1, r2, r3, r4⟩; go_simp; try with_reducible rfl
            simp only [Act.put, List.setIfInBounds_toArray, List.set_cons_succ, List.set_cons_zero]
            refine Lim.stepR 4 (fun _ => trivial) rfl (by kernel_rfl) (fun _ _ _ _ h => h) hC rfl ?_; apply Exists.intro; refine ⟨?_, ?_⟩
            · rintro w ⟨r1, r2, r3, r4⟩; go_simp; try with_reducible rfl
            simp only [Act.put, List.setIfInBounds_toArray, List.set_cons_succ, List.set_cons_zero]
            refine Lim.stepR 5 (fun _ => trivial) rfl (by kernel_rfl) (fun _ _ _ _ h => h) hC rfl ?_; apply Exists.intro; refine ⟨?_, ?_⟩
            · rintro w ⟨r1, r2, r3, r4⟩; go_simp; try with_reducible rfl
            simp only [Act.put, List.setIfInBounds_toArray, List.set_cons_succ, List.set_cons_zero]
            refine Lim.stepR 6 (fun _ => trivial) rfl (by kernel_rfl) (fun _ _ _ _ h => h) hC rfl ?_; apply Exists.intro; refine ⟨?_, ?_⟩
            · rintro w ⟨r1, r2, r3, r4⟩; go_simp; try with_reducible rfl
            simp only [Act.put, List.setIfInBounds_toArray, List.set_cons_succ, List.set_cons_zero]
            refine Lim.stepR 7 (fun _ => trivial) rfl (by kernel_rfl) (fun _ _ _ _ h => h) hC rfl ?_; apply Exists.intro; refine ⟨?_, ?_⟩
            · rintro w ⟨r1, r2, r3, r4⟩; go_simp; try with_reducible rfl
            simp only [Act.put, List.setIfInBounds_toArray, List.set_cons_succ, List.set_cons_zero]
            refine Lim.stepR 8 (fun _ => trivial) rfl (by kernel_rfl) (fun _ _ _ _ h => h) hC rfl ?_; apply Exists.intro; refine ⟨?_, ?_⟩
            · rintro w ⟨r1, r2, r3, r4⟩; go_simp; try with_reducible rfl
            simp only [Act.put, List.setIfInBounds_toArray, List.set_cons_succ, List.set_cons_zero]
            refine Lim.stepR 9 (fun _ => trivial) rfl (by kernel_rfl) (fun _ _ _ _ h => h) hC rfl ?_; apply Exists.intro; refine ⟨?_, ?_⟩
            · rintro w ⟨r1, r2, r3, r4⟩; go_simp; try with_reducible rfl
            simp only [Act.put, List.setIfInBounds_toArray, List.set_cons_succ, List.set_cons_zero]
            refine Lim.stepR 10 (fun _ => trivial) rfl (by kernel_rfl) (fun _ _ _ _ h => h) hC rfl ?_; apply Exists.intro; refine ⟨?_, ?_⟩
            · rintro w ⟨r1, r2, r3, r4⟩; go_simp; try with_reducible rfl
            simp only [Act.put, List.setIfInBounds_toArray, List.set_cons_succ, List.set_cons_zero]
            refine Lim.stepR 11 (fun _ => trivial) rfl (by kernel_rfl) (fun _ _ _ _ h => h) hC rfl ?_; apply Exists.intro; refine ⟨?_, ?_⟩
            · rintro w ⟨r1, r2, r3, r4⟩; go_simp; try with_reducible rfl
            simp only [Act.put, List.setIfInBounds_toArray, List.set_cons_succ, List.set_cons_zero]
            refine Lim.stepR 12 (fun _ => trivial) rfl (by kernel_rfl) (fun _ _ _ _ h => h) hC rfl ?_; apply Exists.intro; refine ⟨?_, ?_⟩
            · rintro w ⟨r1, r2, r3, r4⟩; go_simp; try with_reducible rfl
            simp only [Act.put, List.setIfInBounds_toArray, List.set_cons_succ, List.set_cons_zero]
            refine Lim.stepR 13 (fun _ => trivial) rfl (by kernel_rfl) (fun _ _ _ _ h => h) hC rfl ?_; apply Exists.intro; refine ⟨?_, ?_⟩
            · rintro w ⟨r1, r2, r3, r4⟩; go_simp; try with_reducible rfl
            simp only [Act.put, List.setIfInBounds_toArray, List.set_cons_succ, List.set_cons_zero]
            refine Lim.stepR 14 (fun _ => trivial) rfl (by kernel_rfl) (fun _ _ _ _ h => h) hC rfl ?_; apply Exists.intro; refine ⟨?_, ?_⟩
            · rintro w ⟨r1, r2, r3, r4⟩; go_simp; try with_reducible rfl
            simp only [Act.put, List.setIfInBounds_toArray, List.set_cons_succ, List.set_cons_zero]
            refine Lim.stepD (by kernel_rfl) ?_
            clear hC q1 q2 q3 q4
            go_wp2
            go_ret
            exact ⟨by rw [show decide (l1 = l2) = false from decide_eq_false (fun e => by have h3 := HX.out.1; rw [e, HX.out.2] at h3; cases h3; exact HXY.out rfl)]; rfl, hbr.drew⟩
    · obtain rfl : k = n1 := by omega
      by_cases he : k = n2
      · subst he
        have hb : decide (l1 = l2) = true := by rw [decide_eq_true_eq]; exact list_eq_of hP.out.2 HN.out.1 (by have h3 := HN.out.1; have h4 := HN.out.2; omega)
        have HB := Lib.hid hb
        clear hb
        go_wp2
        go_ret
        exact ⟨by rw [HB.out]; rfl, hbr⟩
      · have he1 : ((k : Int) == (n2 : Int)) = false := by rw [beq_eq_false_iff_ne]; omega
        have hb : decide (l1 = l2) = false := by rw [decide_eq_false_iff_not]; intro e; have h3 := HN.out.1; have h4 := HN.out.2; rw [e] at h3; omega
        have HB := Lib.hid hb
        clear hb
        go_wp2
        go_ret
        exact ⟨by rw [HB.out]; rfl, hbr⟩

set_option maxRecDepth 100000 in
set_option maxHeartbeats 1000000 in
theorem equal_sides {B1 B2 : Nat} {v1 v2 : Value} {l1 l2 : List (Bool × Bool × Bool)} {w : World} (hn : l1.length ≤ 1000) (h1 : RS B1 w v1 l1.length (sideCells l1)) (h2 : RS B2 w v2 l2.length (sideCells l2)) :
    Calls Try.prog 54 #[v1, v2] w fun e w' => e = .returned (.bool (decide (l1 = l2))) ∧ Below w.heap.size w w' := by
  obtain ⟨a1, c1, rfl, g1⟩ := h1
  obtain ⟨a2, c2, rfl, g2⟩ := h2
  have HG := Lib.hid (And.intro g1 g2)
  clear g1 g2
  obtain ⟨n2, hn2⟩ : ∃ n2, n2 = l2.length := ⟨_, rfl⟩
  obtain ⟨n1, hn1⟩ : ∃ n1, n1 = l1.length := ⟨_, rfl⟩
  rw [← hn2]
  rw [← hn1] at hn ⊢
  have HN := Lib.hid (And.intro hn1 hn2)
  clear hn1 hn2
  go_enter Try.func54, Try.ntmps54
  go_wp2_with fail
  go_loopw [8] (fun i wr => ∃ k : Nat, k ≤ n1 ∧ i = .int .i64 k ∧ Hid (k ≤ n2 ∧ ∀ j, j < k → l1[j]? = l2[j]?) ∧ Below w.heap.size w wr) (fun i _ => n1 - (intOf i).toNat)
  case atStart => exact ⟨0, Nat.zero_le _, rfl, Lib.hid ⟨Nat.zero_le _, fun j h => by omega⟩, Below.refl _ _⟩
  case round =>
    obtain ⟨k, hk, rfl, hP, hbr⟩ := hrel
    by_cases hlt : k < n1
    · have hkb : (k : Int) < 1000 := by omega
      by_cases hle : n2 ≤ k
      · have hd : decide (n2 ≤ k) = true := by simpa using hle
        have hC : (fun _ : World => True) wr.drew := trivial
        go_wp2_with fail
        refine Lim.regC' (fun _ => True) [] #[false, false, false, false, false, false, false, false, false, false, false, false, false, false, false] (by kernel_rfl) rfl ?_
        refine Lim.stepR 0 (fun _ => trivial) rfl (by kernel_rfl) (fun _ _ _ _ h => h) hC rfl ?_; apply Exists.intro; refine ⟨?_, ?_⟩
        · rintro w _; go_simp; try with_reducible rfl
        simp only [Act.put, List.setIfInBounds_toArray, List.set_cons_succ, List.set_cons_zero]
        refine Lim.stepR 1 (fun _ => trivial) rfl (by kernel_rfl) (fun _ _ _ _ h => h) hC rfl ?_; apply Exists.intro; refine ⟨?_, ?_⟩
        · rintro w _; go_simp; try with_reducible rfl
        simp only [Act.put, List.setIfInBounds_toArray, List.set_cons_succ, List.set_cons_zero]
        refine Lim.stepR 2 (fun _ => trivial) rfl (by kernel_rfl) (fun _ _ _ _ h => h) hC rfl ?_; apply Exists.intro; refine ⟨?_, ?_⟩
        · rintro w _; go_simp; try with_reducible rfl
        simp only [Act.put, List.setIfInBounds_toArray, List.set_cons_succ, List.set_cons_zero]
        refine Lim.stepR 3 (fun _ => trivial) rfl (by kernel_rfl) (fun _ _ _ _ h => h) hC rfl ?_; apply Exists.intro; refine ⟨?_, ?_⟩
        · rintro w _; go_simp; try with_reducible rfl
        simp only [Act.put, List.setIfInBounds_toArray, List.set_cons_succ, List.set_cons_zero]
        refine Lim.stepR 4 (fun _ => trivial) rfl (by kernel_rfl) (fun _ _ _ _ h => h) hC rfl ?_; apply Exists.intro; refine ⟨?_, ?_⟩
        · rintro w _; go_simp; try with_reducible rfl
        simp only [Act.put, List.setIfInBounds_toArray, List.set_cons_succ, List.set_cons_zero]
        refine Lim.stepS 5 (fun _ => trivial) rfl (by kernel_rfl) (fun _ _ _ _ h => h) hC rfl ?_
        simp only [Act.put, List.setIfInBounds_toArray, List.set_cons_succ, List.set_cons_zero]
        refine Lim.stepS 6 (fun _ => trivial) rfl (by kernel_rfl) (fun _ _ _ _ h => h) hC rfl ?_
        simp only [Act.put, List.setIfInBounds_toArray, List.set_cons_succ, List.set_cons_zero]
        refine Lim.stepS 7 (fun _ => trivial) rfl (by kernel_rfl) (fun _ _ _ _ h => h) hC rfl ?_
        simp only [Act.put, List.setIfInBounds_toArray, List.set_cons_succ, List.set_cons_zero]
        refine Lim.stepS 8 (fun _ => trivial) rfl (by kernel_rfl) (fun _ _ _ _ h => h) hC rfl ?_
        simp only [Act.put, List.setIfInBounds_toArray, List.set_cons_succ, List.set_cons_zero]
        refine Lim.stepS 9 (fun _ => trivial) rfl (by kernel_rfl) (fun _ _ _ _ h => h) hC rfl ?_
        simp only [Act.put, List.setIfInBounds_toArray, List.set_cons_succ, List.set_cons_zero]
        refine Lim.stepS 10 (fun _ => trivial) rfl (by kernel_rfl) (fun _ _ _ _ h => h) hC rfl ?_
        simp only [Act.put, List.setIfInBounds_toArray, List.set_cons_succ, List.set_cons_zero]
        refine Lim.stepS 11 (fun _ => trivial) rfl (by kernel_rfl) (fun _ _ _ _ h => h) hC rfl ?_
        simp only [Act.put, List.setIfInBounds_toArray, List.set_cons_succ, List.set_cons_zero]
        refine Lim.stepS 12 (fun _ => trivial) rfl (by kernel_rfl) (fun _ _ _ _ h => h) hC rfl ?_
        simp only [Act.put, List.setIfInBounds_toArray, List.set_cons_succ, List.set_cons_zero]
        refine Lim.stepS 13 (fun _ => trivial) rfl (by kernel_rfl) (fun _ _ _ _ h => h) hC rfl ?_
        simp only [Act.put, List.setIfInBounds_toArray, List.set_cons_succ, List.set_cons_zero]
        refine Lim.stepR 14 (fun _ => trivial) rfl (by kernel_rfl) (fun _ _ _ _ h => h) hC rfl ?_; apply Exists.intro; refine ⟨?_, ?_⟩
        · rintro w _; go_simp; try with_reducible rfl
        simp only [Act.put, List.setIfInBounds_toArray, List.set_cons_succ, List.set_cons_zero]
        refine Lim.stepD (by kernel_rfl) ?_
        clear hC
        go_wp2
        go_ret
        exact ⟨by rw [show decide (l1 = l2) = false from decide_eq_false (fun e => by have h3 := HN.out.1; have h4 := HN.out.2; rw [e] at h3; omega)]; rfl, hbr.drew⟩
      · have hd : decide (n2 ≤ k) = false := by simpa using hle
        have hlt2 : k < n2 := by omega
        obtain ⟨ab, aoff, rfl, hab, hac⟩ := HG.out.1 (side_ne (by have := HN.out.1; omega))
        obtain ⟨bb, boff, rfl, hbb, hbc⟩ := HG.out.2 (side_ne (by have := HN.out.2; omega))
        have hk1 : k < l1.length := by have := HN.out.1; omega
        have hk2 : k < l2.length := by have := HN.out.2; omega
        obtain ⟨x, hx⟩ : ∃ x, x = l1[k] := ⟨_, rfl⟩
        obtain ⟨y, hy⟩ : ∃ y, y = l2[k] := ⟨_, rfl⟩
        have q1 : wr.cell? ⟨ab, aoff + k * 3, none⟩ = some (.bool x.1) := by rw [hx]; exact cell_on hbr (hac _ _ (side_at l1 k hk1).1)
        have q2 : wr.cell? ⟨ab, aoff + k * 3 + 1, none⟩ = some (.bool x.2.1) := by rw [hx]; exact cell_on hbr (hac _ _ (side_at l1 k hk1).2.1)
        have q3 : wr.cell? ⟨ab, aoff + k * 3 + 2, none⟩ = some (.bool x.2.2) := by rw [hx]; exact cell_on hbr (hac _ _ (side_at l1 k hk1).2.2)
        have q4 : wr.cell? ⟨bb, boff + k * 3, none⟩ = some (.bool y.1) := by rw [hy]; exact cell_on hbr (hbc _ _ (side_at l2 k hk2).1)
        have q5 : wr.cell? ⟨bb, boff + k * 3 + 1, none⟩ = some (.bool y.2.1) := by rw [hy]; exact cell_on hbr (hbc _ _ (side_at l2 k hk2).2.1)
        have q6 : wr.cell? ⟨bb, boff + k * 3 + 2, none⟩ = some (.bool y.2.2) := by rw [hy]; exact cell_on hbr (hbc _ _ (side_at l2 k hk2).2.2)
        have HX : Hid (l1[k]? = some x ∧ l2[k]? = some y) := Lib.hid ⟨by rw [List.getElem?_eq_getElem hk1, hx], by rw [List.getElem?_eq_getElem hk2, hy]⟩
        clear hx hy hk1 hk2 hac hbc
        have hC : (fun W => W.cell? ⟨ab, aoff + k * 3, none⟩ = some (.bool x.1) ∧ W.cell? ⟨ab, aoff + k * 3 + 1, none⟩ = some (.bool x.2.1) ∧ W.cell? ⟨ab, aoff + k * 3 + 2, none⟩ = some (.bool x.2.2) ∧ W.cell? ⟨bb, boff + k * 3, none⟩ = some (.bool y.1) ∧ W.cell? ⟨bb, boff + k * 3 + 1, none⟩ = some (.bool y.2.1) ∧ W.cell? ⟨bb, boff + k * 3 + 2, none⟩ = some (.bool y.2.2)) wr.drew := ⟨q1, q2, q3, q4, q5, q6⟩
        by_cases hxy : x = y
        · subst hxy
          skip
          go_wp2_with fail
          refine Lim.regC' (fun W => W.cell? ⟨ab, aoff + k * 3, none⟩ = some (.bool x.1) ∧ W.cell? ⟨ab, aoff + k * 3 + 1, none⟩ = some (.bool x.2.1) ∧ W.cell? ⟨ab, aoff + k * 3 + 2, none⟩ = some (.bool x.2.2) ∧ W.cell? ⟨bb, boff + k * 3, none⟩ = some (.bool x.1) ∧ W.cell? ⟨bb, boff + k * 3 + 1, none⟩ = some (.bool x.2.1) ∧ W.cell? ⟨bb, boff + k * 3 + 2, none⟩ = some (.bool x.2.2)) [] #[false, false, false, false, false, false, false, false, false, false, false, false, false, false, false] (by kernel_rfl) rfl ?_
          refine Lim.stepR 0 (fun _ => trivial) rfl (by kernel_rfl) (fun _ _ _ _ h => h) hC rfl ?_; apply Exists.intro; refine ⟨?_, ?_⟩
          · rintro w ⟨r1, r2, r3, r4, r5, r6⟩; go_simp; try with_reducible rfl
          simp only [Act.put, List.setIfInBounds_toArray, List.set_cons_succ, List.set_cons_zero]
          refine Lim.stepR 1 (fun _ => trivial) rfl (by kernel_rfl) (fun _ _ _ _ h => h) hC rfl ?_; apply Exists.intro; refine ⟨?_, ?_⟩
          · rintro w ⟨r1, r2, r3, r4, r5, r6⟩; go_simp; try with_reducible rfl
          simp only [Act.put, List.setIfInBounds_toArray, List.set_cons_succ, List.set_cons_zero]
          refine Lim.stepR 2 (fun _ => trivial) rfl (by kernel_rfl) (fun _ _ _ _ h => h) hC rfl ?_; apply Exists.intro; refine ⟨?_, ?_⟩
          · rintro w ⟨r1, r2, r3, r4, r5, r6⟩; go_simp; try with_reducible rfl
          simp only [Act.put, List.setIfInBounds_toArray, List.set_cons_succ, List.set_cons_zero]
          refine Lim.stepR 3 (fun _ => trivial) rfl (by kernel_rfl) (fun _ _ _ _ h => h) hC rfl ?_; apply Exists.intro; refine ⟨?_, ?_⟩
          · rintro w ⟨r1, r2, r3, r4, r5, r6⟩; go_simp; try with_reducible rfl
          simp only [Act.put, List.setIfInBounds_toArray, List.set_cons_succ, List.set_cons_zero]
          refine Lim.stepR 4 (fun _ => trivial) rfl (by kernel_rfl) (fun _ _ _ _ h => h) hC rfl ?_; apply Exists.intro; refine ⟨?_, ?_⟩
          · rintro w ⟨r1, r2, r3, r4, r5, r6⟩; go_simp; try with_reducible rfl
          simp only [Act.put, List.setIfInBounds_toArray, List.set_cons_succ, List.set_cons_zero]
          refine Lim.stepR 5 (fun _ => trivial) rfl (by kernel_rfl) (fun _ _ _ _ h => h) hC rfl ?_; apply Exists.intro; refine ⟨?_, ?_⟩
          · rintro w ⟨r1, r2, r3, r4, r5, r6⟩; go_simp; try with_reducible rfl
          simp only [Act.put, List.setIfInBounds_toArray, List.set_cons_succ, List.set_cons_zero]
          refine Lim.stepR 6 (fun _ => trivial) rfl (by kernel_rfl) (fun _ _ _ _ h => h) hC rfl ?_; apply Exists.intro; refine ⟨?_, ?_⟩
          · rintro w ⟨r1, r2, r3, r4, r5, r6⟩; go_simp; try with_reducible rfl
          simp only [Act.put, List.setIfInBounds_toArray, List.set_cons_succ, List.set_cons_zero]
          refine Lim.stepR 7 (fun _ => trivial) rfl (by kernel_rfl) (fun _ _ _ _ h => h) hC rfl ?_; apply Exists.intro; refine ⟨?_, ?_⟩
          · rintro w ⟨r1, r2, r3, r4, r5, r6⟩; go_simp; try with_reducible rfl
          simp only [Act.put, List.setIfInBounds_toArray, List.set_cons_succ, List.set_cons_zero]
          refine Lim.stepR 8 (fun _ => trivial) rfl (by kernel_rfl) (fun _ _ _ _ h => h) hC rfl ?_; apply Exists.intro; refine ⟨?_, ?_⟩
          · rintro w ⟨r1, r2, r3, r4, r5, r6⟩; go_simp; try with_reducible rfl
          simp only [Act.put, List.setIfInBounds_toArray, List.set_cons_succ, List.set_cons_zero]
          refine Lim.stepR 9 (fun _ => trivial) rfl (by kernel_rfl) (fun _ _ _ _ h => h) hC rfl ?_; apply Exists.intro; refine ⟨?_, ?_⟩
          · rintro w ⟨r1, r2, r3, r4, r5, r6⟩; go_simp; try with_reducible rfl
          simp only [Act.put, List.setIfInBounds_toArray, List.set_cons_succ, List.set_cons_zero]
          refine Lim.stepR 10 (fun _ => trivial) rfl (by kernel_rfl) (fun _ _ _ _ h => h) hC rfl ?_; apply Exists.intro; refine ⟨?_, ?_⟩
          · rintro w ⟨r1, r2, r3, r4, r5, r6⟩; go_simp; try with_reducible rfl
          simp only [Act.put, List.setIfInBounds_toArray, List.set_cons_succ, List.set_cons_zero]
          refine Lim.stepR 11 (fun _ => trivial) rfl (by kernel_rfl) (fun _ _ _ _ h => h) hC rfl ?_; apply Exists.intro; refine ⟨?_, ?_⟩
          · rintro w ⟨r1, r2, r3, r4, r5, r6⟩; go_simp; try with_reducible rfl
          simp only [Act.put, List.setIfInBounds_toArray, List.set_cons_succ, List.set_cons_zero]
          refine Lim.stepR 12 (fun _ => trivial) rfl (by kernel_rfl) (fun _ _ _ _ h => h) hC rfl ?_; apply Exists.intro; refine ⟨?_, ?_⟩
          · rintro w ⟨r1, r2, r3, r4, r5, r6⟩; go_simp; try with_reducible rfl
          simp only [Act.put, List.setIfInBounds_toArray, List.set_cons_succ, List.set_cons_zero]
          refine Lim.stepR 13 (fun _ => trivial) rfl (by kernel_rfl) (fun _ _ _ _ h => h) hC rfl ?_; apply Exists.intro; refine ⟨?_, ?_⟩
          · rintro w ⟨r1, r2, r3, r4, r5, r6⟩; go_simp; try with_reducible rfl
          simp only [Act.put, List.setIfInBounds_toArray, List.set_cons_succ, List.set_cons_zero]
          refine Lim.stepR 14 (fun _ => trivial) rfl (by kernel_rfl) (fun _ _ _ _ h => h) hC rfl ?_; apply Exists.intro; refine ⟨?_, ?_⟩
          · rintro w ⟨r1, r2, r3, r4, r5, r6⟩; go_simp; try with_reducible rfl
          simp only [Act.put, List.setIfInBounds_toArray, List.set_cons_succ, List.set_cons_zero]
          refine Lim.stepD (by kernel_rfl) ?_
          clear hC q1 q2 q3 q4 q5 q6
          go_wp2
          go_roundw
          case rel =>
            refine ⟨k + 1, by omega, by go_num, Lib.hid ⟨by omega, fun j hj => ?_⟩, hbr.drew⟩
            by_cases e : j = k
            · subst e; rw [HX.out.1, HX.out.2]
            · exact hP.out.2 j (by omega)
          case measure => simp [intOf]; omega
        · have HXY := Lib.hid hxy
          clear hxy
          by_cases e0 : x.1 = y.1
          · skip
            by_cases e1 : x.2.1 = y.2.1
            · skip
              have e2 : ¬ x.2.2 = y.2.2 := fun h => HXY.out (by exact Prod.ext e0 (Prod.ext e1 h))
              go_wp2_with fail
              refine Lim.regC' (fun W => W.cell? ⟨ab, aoff + k * 3, none⟩ = some (.bool x.1) ∧ W.cell? ⟨ab, aoff + k * 3 + 1, none⟩ = some (.bool x.2.1) ∧ W.cell? ⟨ab, aoff + k * 3 + 2, none⟩ = some (.bool x.2.2) ∧ W.cell? ⟨bb, boff + k * 3, none⟩ = some (.bool y.1) ∧ W.cell? ⟨bb, boff + k * 3 + 1, none⟩ = some (.bool y.2.1) ∧ W.cell? ⟨bb, boff + k * 3 + 2, none⟩ = some (.bool y.2.2)) [] #[false, false, false, false, false, false, false, false, false, false, false, false, false, false, false] (by kernel_rfl) rfl ?_
              refine Lim.stepR 0 (fun _ => trivial) rfl (by kernel_rfl) (fun _ _ _ _ h => h) hC rfl ?_; apply Exists.intro; refine ⟨?_, ?_⟩
              · rintro w ⟨r1, r2, r3, r4, r5, r6⟩; go_simp; try with_reducible rfl
              simp only [Act.put, List.setIfInBounds_toArray, List.set_cons_succ, List.set_cons_zero]
              refine Lim.stepR 1 (fun _ => trivial) rfl (by kernel_rfl) (fun _ _ _ _ h => h) hC rfl ?_; apply Exists.intro; refine ⟨?_, ?_⟩
              · rintro w ⟨r1, r2, r3, r4, r5, r6⟩; go_simp; try with_reducible rfl
              simp only [Act.put, List.setIfInBounds_toArray, List.set_cons_succ, List.set_cons_zero]
              refine Lim.stepR 2 (fun _ => trivial) rfl (by kernel_rfl) (fun _ _ _ _ h => h) hC rfl ?_; apply Exists.intro; refine ⟨?_, ?_⟩
              · rintro w ⟨r1, r2, r3, r4, r5, r6⟩; go_simp; try with_reducible rfl
              simp only [Act.put, List.setIfInBounds_toArray, List.set_cons_succ, List.set_cons_zero]
              refine Lim.stepR 3 (fun _ => trivial) rfl (by kernel_rfl) (fun _ _ _ _ h => h) hC rfl ?_; apply Exists.intro; refine ⟨?_, ?_⟩
              · rintro w ⟨r1, r2, r3, r4, r5, r6⟩; go_simp; try with_reducible rfl
              simp only [Act.put, List.setIfInBounds_toArray, List.set_cons_succ, List.set_cons_zero]
              refine Lim.stepR 4 (fun _ => trivial) rfl (by kernel_rfl) (fun _ _ _ _ h => h) hC rfl ?_; apply Exists.intro; refine ⟨?_, ?_⟩
              · rintro w ⟨r1, r2, r3, r4, r5, r6⟩; go_simp; try with_reducible rfl
              simp only [Act.put, List.setIfInBounds_toArray, List.set_cons_succ, List.set_cons_zero]
              refine Lim.stepR 5 (fun _ => trivial) rfl (by kernel_rfl) (fun _ _ _ _ h => h) hC rfl ?_; apply Exists.intro; refine ⟨?_, ?_⟩
              · rintro w ⟨r1, r2, r3, r4, r5, r6⟩; go_simp; try with_reducible rfl
              simp only [Act.put, List.setIfInBounds_toArray, List.set_cons_succ, List.set_cons_zero]
              refine Lim.stepR 6 (fun _ => trivial) rfl (by kernel_rfl) (fun _ _ _ _ h => h) hC rfl ?_; apply Exists.intro; refine ⟨?_, ?_⟩
              · rintro w ⟨r1, r2, r3, r4, r5, r6⟩; go_simp; try with_reducible rfl
              simp only [Act.put, List.setIfInBounds_toArray, List.set_cons_succ, List.set_cons_zero]
              refine Lim.stepR 7 (fun _ => trivial) rfl (by kernel_rfl) (fun _ _ _ _ h => h) hC rfl ?_; apply Exists.intro; refine ⟨?_, ?_⟩
              · rintro w ⟨r1, r2, r3, r4, r5, r6⟩; go_simp; try with_reducible rfl
              simp only [Act.put, List.setIfInBounds_toArray, List.set_cons_succ, List.set_cons_zero]
              refine Lim.stepR 8 (fun _ => trivial) rfl (by kernel_rfl) (fun _ _ _ _ h => h) hC rfl ?_; apply Exists.intro; refine ⟨?_, ?_⟩
              · rintro w ⟨r1, r2, r3, r4, r5, r6⟩; go_simp; try with_reducible rfl
              simp only [Act.put, List.setIfInBounds_toArray, List.set_cons_succ, List.set_cons_zero]
              refine Lim.stepR 9 (fun _ => trivial) rfl (by kernel_rfl) (fun _ _ _ _ h => h) hC rfl ?_; apply Exists.intro; refine ⟨?_, ?_⟩
              · rintro w ⟨r1, r2, r3, r4, r5, r6⟩; go_simp; try with_reducible rfl
              simp only [Act.put, List.setIfInBounds_toArray, List.set_cons_succ, List.set_cons_zero]
              refine Lim.stepR 10 (fun _ => trivial) rfl (by kernel_rfl) (fun _ _ _ _ h => h) hC rfl ?_; apply Exists.intro; refine ⟨?_, ?_⟩
              · rintro w ⟨r1, r2, r3, r4, r5, r6⟩; go_simp; try with_reducible rfl
              simp only [Act.put, List.setIfInBounds_toArray, List.set_cons_succ, List.set_cons_zero]
              refine Lim.stepR 11 (fun _ => trivial) rfl (by kernel_rfl) (fun _ _ _ _ h => h) hC rfl ?_; apply Exists.intro; refine ⟨?_, ?_⟩
              · rintro w ⟨r1, r2, r3, r4, r5, r6⟩; go_simp; try with_reducible rfl
              simp only [Act.put, List.setIfInBounds_toArray, List.set_cons_succ, List.set_cons_zero]
              refine Lim.stepR 12 (fun _ => trivial) rfl (by kernel_rfl) (fun _ _ _ _ h => h) hC rfl ?_; apply Exists.intro; refine ⟨?_, ?_⟩
              · rintro w ⟨r1, r2, r3, r4, r5, r6⟩; go_simp; try with_reducible rfl
              simp only [Act.put, List.setIfInBounds_toArray, List.set_cons_succ, List.set_cons_zero]
              refine Lim.stepR 13 (fun _ => trivial) rfl (by kernel_rfl) (fun _ _ _ _ h => h) hC rfl ?_; apply Exists.intro; refine ⟨?_, ?_⟩
              · rintro w ⟨r1, r2, r3, r4, r5, r6⟩; go_simp; try with_reducible rfl
              simp only [Act.put, List.setIfInBounds_toArray, List.set_cons_succ, List.set_cons_zero]
              refine Lim.stepR 14 (fun _ => trivial) rfl (by kernel_rfl) (fun _ _ _ _ h => h) hC rfl ?_; apply Exists.intro; refine ⟨?_, ?_⟩
              · rintro w ⟨r1, r2, r3, r4, r5, r6⟩; go_simp; try with_reducible rfl
              simp only [Act.put, List.setIfInBounds_toArray, List.set_cons_succ, List.set_cons_zero]
              refine Lim.stepD (by kernel_rfl) ?_
              clear hC q1 q2 q3 q4 q5 q6
              go_wp2
              go_ret
              exact ⟨by rw [show decide (l1 = l2) = false from decide_eq_false (fun e => by have h3 := HX.out.1; rw [e, HX.out.2] at h3; cases h3; exact HXY.out rfl)]; rfl, hbr.drew⟩
            · go_wp2_with fail
              refine Lim.regC' (fun W => W.cell? ⟨ab, aoff + k * 3, none⟩ = some (.bool x.1) ∧ W.cell? ⟨ab, aoff + k * 3 + 1, none⟩ = some (.bool x.2.1) ∧ W.cell? ⟨ab, aoff + k * 3 + 2, none⟩ = some (.bool x.2.2) ∧ W.cell? ⟨bb, boff + k * 3, none⟩ = some (.bool y.1) ∧ W.cell? ⟨bb, boff + k * 3 + 1, none⟩ = some (.bool y.2.1) ∧ W.cell? ⟨bb, boff + k * 3 + 2, none⟩ = some (.bool y.2.2)) [] #[false, false, false, false, false, false, false, false, false, false, false, false, false, false, false] (by kernel_rfl) rfl ?_
              refine Lim.stepR 0 (fun _ => trivial) rfl (by kernel_rfl) (fun _ _ _ _ h => h) hC rfl ?_; apply Exists.intro; refine ⟨?_, ?_⟩
              · rintro w ⟨r1, r2, r3, r4, r5, r6⟩; go_simp; try with_reducible rfl
              simp only [Act.put, List.setIfInBounds_toArray, List.set_cons_succ, List.set_cons_zero]
              refine Lim.stepR 1 (fun _ => trivial) rfl (by kernel_rfl) (fun _ _ _ _ h => h) hC rfl ?_; apply Exists.intro; refine ⟨?_, ?_⟩
              · rintro w ⟨r1, r2, r3, r4, r5, r6⟩; go_simp; try with_reducible rfl
              simp only [Act.put, List.setIfInBounds_toArray, List.set_cons_succ, List.set_cons_zero]
              refine Lim.stepR 2 (fun _ => trivial) rfl (by kernel_rfl) (fun _ _ _ _ h => h) hC rfl ?_; apply Exists.intro; refine ⟨?_, ?_⟩
              · rintro w ⟨r1, r2, r3, r4, r5, r6⟩; go_simp; try with_reducible rfl
              simp only [Act.put, List.setIfInBounds_toArray, List.set_cons_succ, List.set_cons_zero]
              refine Lim.stepR 3 (fun _ => trivial) rfl (by kernel_rfl) (fun _ _ _ _ h => h) hC rfl ?_; apply Exists.intro; refine ⟨?_, ?_⟩
              · rintro w ⟨r1, r2, r3, r4, r5, r6⟩; go_simp; try with_reducible rfl
              simp only [Act.put, List.setIfInBounds_toArray, List.set_cons_succ, List.set_cons_zero]
              refine Lim.stepR 4 (fun _ => trivial) rfl (by kernel_rfl) (fun _ _ _ _ h => h) hC rfl ?_; apply Exists.intro; refine ⟨?_, ?_⟩
              · rintro w ⟨r1, r2, r3, r4, r5, r6⟩; go_simp; try with_reducible rfl
              simp only [Act.put, List.setIfInBounds_toArray, List.set_cons_succ, List.set_cons_zero]
              refine Lim.stepR 5 (fun _ => trivial) rfl (by kernel_rfl) (fun _ _ _ _ h => h) hC rfl ?_; apply Exists.intro; refine ⟨?_, ?_⟩
              · rintro w ⟨r1, r2, r3, r4, r5, r6⟩; go_simp; try with_reducible rfl
              simp only [Act.put, List.setIfInBounds_toArray, List.set_cons_succ, List.set_cons_zero]
              refine Lim.stepR 6 (fun _ => trivial) rfl (by kernel_rfl) (fun _ _ _ _ h => h) hC rfl ?_; apply Exists.intro; refine ⟨?_, ?_⟩
              · rintro w ⟨r1, r2, r3, r4, r5, r6⟩; go_simp; try with_reducible rfl
              simp only [Act.put, List.setIfInBounds_toArray, List.set_cons_succ, List.set_cons_zero]
              refine Lim.stepR 7 (fun _ => trivial) rfl (by kernel_rfl) (fun _ _ _ _ h => h) hC rfl ?_; apply Exists.intro; refine ⟨?_, ?_⟩
              · rintro w ⟨r1, r2, r3, r4, r5, r6⟩; go_simp; try with_reducible rfl
              simp only [Act.put, List.setIfInBounds_toArray, List.set_cons_succ, List.set_cons_zero]
              refine Lim.stepR 8 (fun _ => trivial) rfl (by kernel_rfl) (fun _ _ _ _ h => h) hC rfl ?_; apply Exists.intro; refine ⟨?_, ?_⟩
              · rintro w ⟨r1, r2, r3, r4, r5, r6⟩; go_simp; try with_reducible rfl
              simp only [Act.put, List.setIfInBounds_toArray, List.set_cons_succ, List.set_cons_zero]
              refine Lim.stepR 9 (fun _ => trivial) rfl (by kernel_rfl) (fun _ _ _ _ h => h) hC rfl ?_; apply Exists.intro; refine ⟨?_, ?_⟩
              · rintro w ⟨r1, r2, r3, r4, r5, r6⟩; go_simp; try with_reducible rfl
              simp only [Act.put, List.setIfInBounds_toArray, List.set_cons_succ, List.set_cons_zero]
              refine Lim.stepR 10 (fun _ => trivial) rfl (by kernel_rfl) (fun _ _ _ _ h => h) hC rfl ?_; apply Exists.intro; refine ⟨?_, ?_⟩
              · rintro w ⟨r1, r2, r3, r4, r5, r6⟩; go_simp; try with_reducible rfl
              simp only [Act.put, List.setIfInBounds_toArray, List.set_cons_succ, List.set_cons_zero]
              refine Lim.stepR 11 (fun _ => trivial) rfl (by kernel_rfl) (fun _ _ _ _ h => h) hC rfl ?_; apply Exists.intro; refine ⟨?_, ?_⟩
              · rintro w ⟨r1, r2, r3, r4, r5, r6⟩; go_simp; try with_reducible rfl
              simp only [Act.put, List.setIfInBounds_toArray, List.set_cons_succ, List.set_cons_zero]
              refine Lim.stepR 12 (fun _ => trivial) rfl (by kernel_rfl) (fun _ _ _ _ h => h) hC rfl ?_; apply Exists.intro; refine ⟨?_, ?_⟩
              · rintro w ⟨r1, r2, r3, r4, r5, r6⟩; go_simp; try with_reducible rfl
              simp only [Act.put, List.setIfInBounds_toArray, List.set_cons_succ, List.set_cons_zero]
              refine Lim.stepR 13 (fun _ => trivial) rfl (by kernel_rfl) (fun _ _ _ _ h => h) hC rfl ?_; apply Exists.intro; refine ⟨?_, ?_⟩
              · rintro w ⟨r1, r2, r3, r4, r5, r6⟩; go_simp; try with_reducible rfl
              simp only [Act.put, List.setIfInBounds_toArray, List.set_cons_succ, List.set_cons_zero]
              refine Lim.stepR 14 (fun _ => trivial) rfl (by kernel_rfl) (fun _ _ _ _ h => h) hC rfl ?_; apply Exists.intro; refine ⟨?_, ?_⟩
              · rintro w ⟨r1, r2, r3, r4, r5, r6⟩; go_simp; try with_reducible rfl
              simp only [Act.put, List.setIfInBounds_toArray, List.set_cons_succ, List.set_cons_zero]
              refine Lim.stepD (by kernel_rfl) ?_
              clear hC q1 q2 q3 q4 q5 q6
              go_wp2
              go_ret
              exact ⟨by rw [show decide (l1 = l2) = false from decide_eq_false (fun e => by have h3 := HX.out.1; rw [e, HX.out.2] at h3; cases h3; exact HXY.out rfl)]; rfl, hbr.drew⟩
          · go_wp2_with fail
            refine Lim.regC' (fun W => W.cell? ⟨ab, aoff + k * 3, none⟩ = some (.bool x.1) ∧ W.cell? ⟨ab, aoff + k * 3 + 1, none⟩ = some (.bool x.2.1) ∧ W.cell? ⟨ab, aoff + k * 3 + 2, none⟩ = some (.bool x.2.2) ∧ W.cell? ⟨bb, boff + k * 3, none⟩ = some (.bool y.1) ∧ W.cell? ⟨bb, boff + k * 3 + 1, none⟩ = some (.bool y.2.1) ∧ W.cell? ⟨bb, boff + k * 3 + 2, none⟩ = some (.bool y.2.2)) [] #[false, false, false, false, false, false, false, false, false, false, false, false, false, false, false] (by kernel_rfl) rfl ?_
            refine Lim.stepR 0 (fun _ => trivial) rfl (by kernel_rfl) (fun _ _ _ _ h => h) hC rfl ?_; apply Exists.intro; refine ⟨?_, ?_⟩
            · rintro w ⟨r1, r2, r3, r4, r5, r6⟩; go_simp; try with_reducible rfl
            simp only [Act.put, List.setIfInBounds_toArray, List.set_cons_succ, List.set_cons_zero]
            refine Lim.stepR 1 (fun _ => trivial) rfl (by kernel_rfl) (fun _ _ _ _ h => h) hC rfl ?_; apply Exists.intro; refine ⟨?_, ?_⟩
            · rintro w ⟨r1, r2, r3, r4, r5, r6⟩; go_simp; try with_reducible rfl
            simp only [Act.put, List.setIfInBounds_toArray, List.set_cons_succ, List.set_cons_zero]
            refine Lim.stepR 2 (fun _ => trivial) rfl (by kernel_rfl) (fun _ _ _ _ h => h) hC rfl ?_; apply Exists.intro; refine ⟨?_, ?_⟩
            · rintro w ⟨r1, r2, r3, r4, r5, r6⟩; go_simp; try with_reducible rfl
            simp only [Act.put, List.setIfInBounds_toArray, List.set_cons_succ, List.set_cons_zero]
            refine Lim.stepR 3 (fun _ => trivial) rfl (by kernel_rfl) (fun _ _ _ _ h => h) hC rfl ?_; apply Exists.intro; refine ⟨?_, ?_⟩
            · rintro w ⟨r1, r2, r3, r4, r5, r6⟩; go_simp; try with_reducible rfl
            simp only [Act.put, List.setIfInBounds_toArray, List.set_cons_succ, List.set_cons_zero]
            refine Lim.stepR 4 (fun _ => trivial) rfl (by kernel_rfl) (fun _ _ _ _ h => h) hC rfl ?_; apply Exists.intro; refine ⟨?_, ?_⟩
            · rintro w ⟨r1, r2, r3, r4, r5, r6⟩; go_simp; try with_reducible rfl
            simp only [Act.put, List.setIfInBounds_toArray, List.set_cons_succ, List.set_cons_zero]
            refine Lim.stepR 5 (fun _ => trivial) rfl (by kernel_rfl) (fun _ _ _ _ h => h) hC rfl ?_; apply Exists.intro; refine ⟨?_, ?_⟩
            · rintro w ⟨r1, r2, r3, r4, r5, r6⟩; go_simp; try with_reducible rfl
            simp only [Act.put, List.setIfInBounds_toArray, List.set_cons_succ, List.set_cons_zero]
            refine Lim.stepR 6 (fun _ => trivial) rfl (by kernel_rfl) (fun _ _ _ _ h => h) hC rfl ?_; apply Exists.intro; refine ⟨?_, ?_⟩
            · rintro w ⟨r1, r2, r3, r4, r5, r6⟩; go_simp; try with_reducible rfl
            simp only [Act.put, List.setIfInBounds_toArray, List.set_cons_succ, List.set_cons_zero]
            refine Lim.stepR 7 (fun _ => trivial) rfl (by kernel_rfl) (fun _ _ _ _ h => h) hC rfl ?_; apply Exists.intro; refine ⟨?_, ?_⟩
            · rintro w ⟨r1, r2, r3, r4, r5, r6⟩; go_simp; try with_reducible rfl
            simp only [Act.put, List.setIfInBounds_toArray, List.set_cons_succ, List.set_cons_zero]
            refine Lim.stepR 8 (fun _ => trivial) rfl (by kernel_rfl) (fun _ _ _ _ h => h) hC rfl ?_; apply Exists.intro; refine ⟨?_, ?_⟩
            · rintro w ⟨r1, r2, r3, r4, r5, r6⟩; go_simp; try with_reducible rfl
            simp only [Act.put, List.setIfInBounds_toArray, List.set_cons_succ, List.set_cons_zero]
            refine Lim.stepR 9 (fun _ => trivial) rfl (by kernel_rfl) (fun _ _ _ _ h => h) hC rfl ?_; apply Exists.intro; refine ⟨?_, ?_⟩
            · rintro w ⟨r1, r2, r3, r4, r5, r6⟩; go_simp; try with_reducible rfl
            simp only [Act.put, List.setIfInBounds_toArray, List.set_cons_succ, List.set_cons_zero]
            refine Lim.stepR 10 (fun _ => trivial) rfl (by kernel_rfl) (fun _ _ _ _ h => h) hC rfl ?_; apply Exists.intro; refine ⟨?_, ?_⟩
            · rintro w ⟨r1, r2, r3, r4, r5, r6⟩; go_simp; try with_reducible rfl
            simp only [Act.put, List.setIfInBounds_toArray, List.set_cons_succ, List.set_cons_zero]
            refine Lim.stepR 11 (fun _ => trivial) rfl (by kernel_rfl) (fun _ _ _ _ h => h) hC rfl ?_; apply Exists.intro; refine ⟨?_, ?_⟩
            · rintro w ⟨r1, r2, r3, r4, r5, r6⟩; go_simp; try with_reducible rfl
            simp only [Act.put, List.setIfInBounds_toArray, List.set_cons_succ, List.set_cons_zero]
            refine Lim.stepR 12 (fun _ => trivial) rfl (by kernel_rfl) (fun _ _ _ _ h => h) hC rfl ?_; apply Exists.intro; refine ⟨?_, ?_⟩
            · rintro w ⟨r1, r2, r3, r4, r5, r6⟩; go_simp; try with_reducible rfl
            simp only [Act.put, List.setIfInBounds_toArray, List.set_cons_succ, List.set_cons_zero]
            refine Lim.stepR 13 (fun _ => trivial) rfl (by kernel_rfl) (fun _ _ _ _ h => h) hC rfl ?_; apply Exists.intro; refine ⟨?_, ?_⟩
            · rintro w ⟨r1, r2, r3, r4, r5, r6⟩; go_simp; try with_reducible rfl
            simp only [Act.put, List.setIfInBounds_toArray, List.set_cons_succ, List.set_cons_zero]
            refine Lim.stepR 14 (fun _ => trivial) rfl (by kernel_rfl) (fun _ _ _ _ h => h) hC rfl ?_; apply Exists.intro; refine ⟨?_, ?_⟩
            · rintro w ⟨r1, r2, r3, r4, r5, r6⟩; go_simp; try with_reducible rfl
            simp only [Act.put, List.setIfInBounds_toArray, List.set_cons_succ, List.set_cons_zero]
            refine Lim.stepD (by kernel_rfl) ?_
            clear hC q1 q2 q3 q4 q5 q6
            go_wp2
            go_ret
            exact ⟨by rw [show decide (l1 = l2) = false from decide_eq_false (fun e => by have h3 := HX.out.1; rw [e, HX.out.2] at h3; cases h3; exact HXY.out rfl)]; rfl, hbr.drew⟩
    · obtain rfl : k = n1 := by omega
      by_cases he : k = n2
      · subst he
        have hb : decide (l1 = l2) = true := by rw [decide_eq_true_eq]; exact list_eq_of hP.out.2 HN.out.1 (by have h3 := HN.out.1; have h4 := HN.out.2; omega)
        have HB := Lib.hid hb
        clear hb
        go_wp2
        go_ret
        exact ⟨by rw [HB.out]; rfl, hbr⟩
      · have he1 : ((k : Int) == (n2 : Int)) = false := by rw [beq_eq_false_iff_ne]; omega
        have hb : decide (l1 = l2) = false := by rw [decide_eq_false_iff_not]; intro e; have h3 := HN.out.1; have h4 := HN.out.2; rw [e] at h3; omega
        have HB := Lib.hid hb
        clear hb
        go_wp2
        go_ret
        exact ⟨by rw [HB.out]; rfl, hbr⟩
end Go.Proofs.Ytdgibmgifgdpbaa
/-
  The example grounds of the statements: the contracts of span, Row, Rows.
-/
namespace Go.Proofs.Ytdgibmgifgdpbaa
open Go.RowKit Go.Shelf
open Lim

theorem range_new (w : World) (cs : List Value) (t : TypeId) : (w.alloc (.cells cs.toArray t)).rangeAt w.heap.size 0 cs := by
  intro j v hj
  rw [Nat.zero_add, World.cell?_alloc_new]
  simpa using hj
set_option maxHeartbeats 400000 in
theorem span_any (lo hi : Int) (w : World) : Calls Try.prog 31 #[.int .i64 lo, .int .i64 hi] w fun e w' => e = .returned (.agg #[.int .i64 lo, .int .i64 hi]) ∧ Below w.heap.size w w' := by
  go_enter Try.func31, Try.ntmps31
  go_wp2
  refine bodyPost_ret (v := .agg #[.int .i64 lo, .int .i64 hi]) (results_mid rfl _ _ w.heap.size 0 [.int .i64 lo, .int .i64 hi] _ rfl (range_new w [.int .i64 lo, .int .i64 hi] 54) Try.underlying54 rfl sizeSpan) rfl ?_
  exact ⟨rfl, (Below.refl _ w).alloc (Nat.le_refl _) _⟩

def rowH (lo hi : Int) : List (Int × Int) := [(0, 0), (3, 5), (7, 9), (lo, hi), (0, 0)]
def rowS : List Int := [1, 0, 0, 0, 2]
def rowsH : List (Int × Int) := [(0, 0), (5, 5), (0, 0), (0, 0), (2, 6), (0, 0)]
def rowsS : List Int := [1, 0, 2, 1, 0, 2]
theorem sizeGround : (Try.prog.info? 25).map (·.size) = some 3 := by kernel_rfl
theorem range3 {w : World} {b : Nat} {x y z : Value} (h0 : w.cell? ⟨b, 0, none⟩ = some x) (h1 : w.cell? ⟨b, 1, none⟩ = some y) (h2 : w.cell? ⟨b, 2, none⟩ = some z) : w.rangeAt b 0 [x, y, z] := by
  intro j v hj
  rw [Nat.zero_add]
  match j with
  | 0 => simp at hj; subst hj; exact h0
  | 1 => simp at hj; subst hj; exact h1
  | 2 => simp at hj; subst hj; exact h2
  | j + 3 => simp at hj
/-- a ground's cells in a box, and its two lists behind it -/
theorem ground_new {w w3 : World} {b : Nat} {x y z : Value} (X Y : List Value) (t1 t2 : TypeId) (n : Nat) (wd : Int) (hlt : b < w3.heap.size) (h0 : w3.cell? ⟨b, 0, none⟩ = some x) (h1 : w3.cell? ⟨b, 1, none⟩ = some y) (h2 : w3.cell? ⟨b, 2, none⟩ = some z) (hB : Below w.heap.size w w3) (hb : w.heap.size ≤ b) :
    ∀ W, W = ((((w3.setCell ⟨b, 0, none⟩ (.int .i64 wd)).setCell ⟨b, 1, none⟩ (.slice (some ⟨w3.heap.size, 0, none⟩) n n)).setCell ⟨b, 2, none⟩ (.slice (some ⟨w3.heap.size + 1, 0, none⟩) n n)).alloc (.cells X.toArray t1)).alloc (.cells Y.toArray t2) →
    W.rangeAt b 0 [.int .i64 wd, .slice (some ⟨w3.heap.size, 0, none⟩) n n, .slice (some ⟨w3.heap.size + 1, 0, none⟩) n n] ∧ RS W.heap.size W (.slice (some ⟨w3.heap.size, 0, none⟩) n n) n X ∧ RS W.heap.size W (.slice (some ⟨w3.heap.size + 1, 0, none⟩) n n) n Y ∧ Below w.heap.size w W := by
  rintro W rfl
  have hs : ((w3.setCell ⟨b, 0, none⟩ (.int .i64 wd)).setCell ⟨b, 1, none⟩ (.slice (some ⟨w3.heap.size, 0, none⟩) n n)).setCell ⟨b, 2, none⟩ (.slice (some ⟨w3.heap.size + 1, 0, none⟩) n n) = ((w3.setCell ⟨b, 0, none⟩ (.int .i64 wd)).setCell ⟨b, 1, none⟩ (.slice (some ⟨w3.heap.size, 0, none⟩) n n)).setCell ⟨b, 2, none⟩ (.slice (some ⟨w3.heap.size + 1, 0, none⟩) n n) := rfl
  have hz : (((w3.setCell ⟨b, 0, none⟩ (.int .i64 wd)).setCell ⟨b, 1, none⟩ (.slice (some ⟨w3.heap.size, 0, none⟩) n n)).setCell ⟨b, 2, none⟩ (.slice (some ⟨w3.heap.size + 1, 0, none⟩) n n)).heap.size = w3.heap.size := by simp [World.setCell]
  have c0 : (((w3.setCell ⟨b, 0, none⟩ (.int .i64 wd)).setCell ⟨b, 1, none⟩ (.slice (some ⟨w3.heap.size, 0, none⟩) n n)).setCell ⟨b, 2, none⟩ (.slice (some ⟨w3.heap.size + 1, 0, none⟩) n n)).cell? ⟨b, 0, none⟩ = some (.int .i64 wd) := by
    rw [setCell_off _ _ (by omega), setCell_off _ _ (by omega)]; exact World.cell?_setCell_same' _ _ _ (by rw [h0]; rfl)
  have c1 : (((w3.setCell ⟨b, 0, none⟩ (.int .i64 wd)).setCell ⟨b, 1, none⟩ (.slice (some ⟨w3.heap.size, 0, none⟩) n n)).setCell ⟨b, 2, none⟩ (.slice (some ⟨w3.heap.size + 1, 0, none⟩) n n)).cell? ⟨b, 1, none⟩ = some (.slice (some ⟨w3.heap.size, 0, none⟩) n n) := by
    rw [setCell_off _ _ (by omega)]; exact World.cell?_setCell_same' _ _ _ (by rw [setCell_off _ _ (by omega), h1]; rfl)
  have c2 : (((w3.setCell ⟨b, 0, none⟩ (.int .i64 wd)).setCell ⟨b, 1, none⟩ (.slice (some ⟨w3.heap.size, 0, none⟩) n n)).setCell ⟨b, 2, none⟩ (.slice (some ⟨w3.heap.size + 1, 0, none⟩) n n)).cell? ⟨b, 2, none⟩ = some (.slice (some ⟨w3.heap.size + 1, 0, none⟩) n n) :=
    World.cell?_setCell_same' _ _ _ (by rw [setCell_off _ _ (by omega), setCell_off _ _ (by omega), h2]; rfl)
  have hB3 : Below w.heap.size w (((w3.setCell ⟨b, 0, none⟩ (.int .i64 wd)).setCell ⟨b, 1, none⟩ (.slice (some ⟨w3.heap.size, 0, none⟩) n n)).setCell ⟨b, 2, none⟩ (.slice (some ⟨w3.heap.size + 1, 0, none⟩) n n)) := ((hB.setCell (p := ⟨b, 0, none⟩) hb _).setCell (p := ⟨b, 1, none⟩) hb _).setCell (p := ⟨b, 2, none⟩) hb _
  generalize ((w3.setCell ⟨b, 0, none⟩ (.int .i64 wd)).setCell ⟨b, 1, none⟩ (.slice (some ⟨w3.heap.size, 0, none⟩) n n)).setCell ⟨b, 2, none⟩ (.slice (some ⟨w3.heap.size + 1, 0, none⟩) n n) = W9 at hz c0 c1 c2 hB3
  clear hs
  have hz2 : (W9.alloc (.cells X.toArray t1)).heap.size = w3.heap.size + 1 := by simp [hz]
  have r1 := range_new W9 X t1
  have r2 := range_new (W9.alloc (.cells X.toArray t1)) Y t2
  rw [hz] at r1
  rw [hz2] at r2
  refine ⟨range3 (cell_al _ (cell_al _ c0)) (cell_al _ (cell_al _ c1)) (cell_al _ (cell_al _ c2)), ⟨_, _, rfl, fun _ => ⟨_, _, rfl, by rw [World.size_alloc, World.size_alloc, hz]; omega, fun j u hj => cell_al _ (r1 j u hj)⟩⟩, ⟨_, _, rfl, fun _ => ⟨_, _, rfl, by rw [World.size_alloc, World.size_alloc, hz]; omega, fun j u hj => r2 j u hj⟩⟩, (hB3.alloc (by omega) _).alloc (by rw [hz2]; have := hB.size; omega) _⟩
-- HEADEND
set_option maxRecDepth 20000 in
set_option maxHeartbeats 1000000 in
theorem Row_any (lo hi : Int) (w : World) : Calls Try.prog 52 #[.int .i64 lo, .int .i64 hi] w fun e w' => ∃ hv sv, e = .returned (.agg #[.int .i64 5, hv, sv]) ∧ RS w'.heap.size w' hv 5 (spans (rowH lo hi)) ∧ RS w'.heap.size w' sv 5 (ints rowS) ∧ Below w.heap.size w w' := by
  have B0 : Below w.heap.size w (w.alloc (.cells #[.int .i64 0, .slice none 0 0, .slice none 0 0] 25)) := (Below.refl _ w).alloc (Nat.le_refl _) _
  have z0 : (w.alloc (.cells #[.int .i64 0, .slice none 0 0, .slice none 0 0] 25)).cell? ⟨w.heap.size, 0, none⟩ = some (.int .i64 0) := cell_new w _ _ 0 (by simp)
  have z1 : (w.alloc (.cells #[.int .i64 0, .slice none 0 0, .slice none 0 0] 25)).cell? ⟨w.heap.size, 1, none⟩ = some (.slice none 0 0) := cell_new w _ _ 1 (by simp)
  have z2 : (w.alloc (.cells #[.int .i64 0, .slice none 0 0, .slice none 0 0] 25)).cell? ⟨w.heap.size, 2, none⟩ = some (.slice none 0 0) := cell_new w _ _ 2 (by simp)
  have y0 : (w.alloc (.cells #[.int .i64 0, .slice none 0 0, .slice none 0 0] 25)).frozen? ⟨w.heap.size, 0, none⟩ = false := frozen_new w _ _ 0 (by simp)
  have y1 : (w.alloc (.cells #[.int .i64 0, .slice none 0 0, .slice none 0 0] 25)).frozen? ⟨w.heap.size, 1, none⟩ = false := frozen_new w _ _ 1 (by simp)
  have y2 : (w.alloc (.cells #[.int .i64 0, .slice none 0 0, .slice none 0 0] 25)).frozen? ⟨w.heap.size, 2, none⟩ = false := frozen_new w _ _ 2 (by simp)
  have hs0 : w.heap.size + 1 ≤ (w.alloc (.cells #[.int .i64 0, .slice none 0 0, .slice none 0 0] 25)).heap.size := by simp
  have HZ := Lib.hid (And.intro B0 (And.intro z0 (And.intro z1 (And.intro z2 (And.intro y0 (And.intro y1 (And.intro y2 hs0)))))))
  clear B0 z0 z1 z2 y0 y1 y2 hs0
  go_enter Try.func52, Try.ntmps52
  go_wp2_with fail
  refine (span_any _ _ _).mono ?_
  rintro e w1 ⟨rfl, hb1⟩
  have HZ := Lib.hid (And.intro (HZ.out.1.trans (hb1.mono (by have := HZ.out.2.2.2.2.2.2.2; omega))) (And.intro (cell_on hb1 HZ.out.2.1) (And.intro (cell_on hb1 HZ.out.2.2.1) (And.intro (cell_on hb1 HZ.out.2.2.2.1) (And.intro (frozen_on hb1 HZ.out.2.1 HZ.out.2.2.2.2.1) (And.intro (frozen_on hb1 HZ.out.2.2.1 HZ.out.2.2.2.2.2.1) (And.intro (frozen_on hb1 HZ.out.2.2.2.1 HZ.out.2.2.2.2.2.2.1) (show w.heap.size + 1 ≤ w1.heap.size by have h1 := HZ.out.2.2.2.2.2.2.2; have h2 := hb1.size; omega))))))))
  clear hb1
  go_wp2_with fail
  refine (span_any _ _ _).mono ?_
  rintro e w2 ⟨rfl, hb2⟩
  have HZ := Lib.hid (And.intro (HZ.out.1.trans (hb2.mono (by have := HZ.out.2.2.2.2.2.2.2; omega))) (And.intro (cell_on hb2 HZ.out.2.1) (And.intro (cell_on hb2 HZ.out.2.2.1) (And.intro (cell_on hb2 HZ.out.2.2.2.1) (And.intro (frozen_on hb2 HZ.out.2.1 HZ.out.2.2.2.2.1) (And.intro (frozen_on hb2 HZ.out.2.2.1 HZ.out.2.2.2.2.2.1) (And.intro (frozen_on hb2 HZ.out.2.2.2.1 HZ.out.2.2.2.2.2.2.1) (show w.heap.size + 1 ≤ w2.heap.size by have h1 := HZ.out.2.2.2.2.2.2.2; have h2 := hb2.size; omega))))))))
  clear hb2
  go_wp2_with fail
  refine (span_any _ _ _).mono ?_
  rintro e w3 ⟨rfl, hb3⟩
  have HZ := Lib.hid (And.intro (HZ.out.1.trans (hb3.mono (by have := HZ.out.2.2.2.2.2.2.2; omega))) (And.intro (cell_on hb3 HZ.out.2.1) (And.intro (cell_on hb3 HZ.out.2.2.1) (And.intro (cell_on hb3 HZ.out.2.2.2.1) (And.intro (frozen_on hb3 HZ.out.2.1 HZ.out.2.2.2.2.1) (And.intro (frozen_on hb3 HZ.out.2.2.1 HZ.out.2.2.2.2.2.1) (And.intro (frozen_on hb3 HZ.out.2.2.2.1 HZ.out.2.2.2.2.2.2.1) (show w.heap.size + 1 ≤ w3.heap.size by have h1 := HZ.out.2.2.2.2.2.2.2; have h2 := hb3.size; omega))))))))
  clear hb3
  obtain ⟨B, z0, z1, z2, y0, y1, y2, hs⟩ := HZ.out
  have HB := Lib.hid (And.intro B (And.intro z0 (And.intro z1 z2)))
  have hlt : w.heap.size < w3.heap.size := by omega
  clear B HZ
  go_wp2_with fail
  obtain ⟨k1, k2, k3, k4⟩ := ground_new (w := w) (spans (rowH lo hi)) (ints rowS) 54 3 5 5 hlt HB.out.2.1 HB.out.2.2.1 HB.out.2.2.2 HB.out.1 (Nat.le_refl _) _ rfl
  refine bodyPost_ret (v := .agg #[.int .i64 5, .slice (some ⟨w3.heap.size, 0, none⟩) 5 5, .slice (some ⟨w3.heap.size + 1, 0, none⟩) 5 5]) (results_mid rfl _ _ w.heap.size 0 [.int .i64 5, .slice (some ⟨w3.heap.size, 0, none⟩) 5 5, .slice (some ⟨w3.heap.size + 1, 0, none⟩) 5 5] _ rfl k1 Try.underlying25 rfl sizeGround) rfl ?_
  exact ⟨_, _, rfl, k2, k3, k4⟩
set_option maxRecDepth 20000 in
set_option maxHeartbeats 1000000 in
theorem Rows_any (w : World) : Calls Try.prog 53 #[] w fun e w' => ∃ hv sv, e = .returned (.agg #[.int .i64 3, hv, sv]) ∧ RS w'.heap.size w' hv 6 (spans rowsH) ∧ RS w'.heap.size w' sv 6 (ints rowsS) ∧ Below w.heap.size w w' := by
  have B0 : Below w.heap.size w (w.alloc (.cells #[.int .i64 0, .slice none 0 0, .slice none 0 0] 25)) := (Below.refl _ w).alloc (Nat.le_refl _) _
  have z0 : (w.alloc (.cells #[.int .i64 0, .slice none 0 0, .slice none 0 0] 25)).cell? ⟨w.heap.size, 0, none⟩ = some (.int .i64 0) := cell_new w _ _ 0 (by simp)
  have z1 : (w.alloc (.cells #[.int .i64 0, .slice none 0 0, .slice none 0 0] 25)).cell? ⟨w.heap.size, 1, none⟩ = some (.slice none 0 0) := cell_new w _ _ 1 (by simp)
  have z2 : (w.alloc (.cells #[.int .i64 0, .slice none 0 0, .slice none 0 0] 25)).cell? ⟨w.heap.size, 2, none⟩ = some (.slice none 0 0) := cell_new w _ _ 2 (by simp)
  have y0 : (w.alloc (.cells #[.int .i64 0, .slice none 0 0, .slice none 0 0] 25)).frozen? ⟨w.heap.size, 0, none⟩ = false := frozen_new w _ _ 0 (by simp)
  have y1 : (w.alloc (.cells #[.int .i64 0, .slice none 0 0, .slice none 0 0] 25)).frozen? ⟨w.heap.size, 1, none⟩ = false := frozen_new w _ _ 1 (by simp)
  have y2 : (w.alloc (.cells #[.int .i64 0, .slice none 0 0, .slice none 0 0] 25)).frozen? ⟨w.heap.size, 2, none⟩ = false := frozen_new w _ _ 2 (by simp)
  have hs0 : w.heap.size + 1 ≤ (w.alloc (.cells #[.int .i64 0, .slice none 0 0, .slice none 0 0] 25)).heap.size := by simp
  have HZ := Lib.hid (And.intro B0 (And.intro z0 (And.intro z1 (And.intro z2 (And.intro y0 (And.intro y1 (And.intro y2 hs0)))))))
  clear B0 z0 z1 z2 y0 y1 y2 hs0
  go_enter Try.func53, Try.ntmps53
  go_wp2_with fail
  refine (span_any _ _ _).mono ?_
  rintro e w1 ⟨rfl, hb1⟩
  have HZ := Lib.hid (And.intro (HZ.out.1.trans (hb1.mono (by have := HZ.out.2.2.2.2.2.2.2; omega))) (And.intro (cell_on hb1 HZ.out.2.1) (And.intro (cell_on hb1 HZ.out.2.2.1) (And.intro (cell_on hb1 HZ.out.2.2.2.1) (And.intro (frozen_on hb1 HZ.out.2.1 HZ.out.2.2.2.2.1) (And.intro (frozen_on hb1 HZ.out.2.2.1 HZ.out.2.2.2.2.2.1) (And.intro (frozen_on hb1 HZ.out.2.2.2.1 HZ.out.2.2.2.2.2.2.1) (show w.heap.size + 1 ≤ w1.heap.size by have h1 := HZ.out.2.2.2.2.2.2.2; have h2 := hb1.size; omega))))))))
  clear hb1
  go_wp2_with fail
  refine (span_any _ _ _).mono ?_
  rintro e w2 ⟨rfl, hb2⟩
  have HZ := Lib.hid (And.intro (HZ.out.1.trans (hb2.mono (by have := HZ.out.2.2.2.2.2.2.2; omega))) (And.intro (cell_on hb2 HZ.out.2.1) (And.intro (cell_on hb2 HZ.out.2.2.1) (And.intro (cell_on hb2 HZ.out.2.2.2.1) (And.intro (frozen_on hb2 HZ.out.2.1 HZ.out.2.2.2.2.1) (And.intro (frozen_on hb2 HZ.out.2.2.1 HZ.out.2.2.2.2.2.1) (And.intro (frozen_on hb2 HZ.out.2.2.2.1 HZ.out.2.2.2.2.2.2.1) (show w.heap.size + 1 ≤ w2.heap.size by have h1 := HZ.out.2.2.2.2.2.2.2; have h2 := hb2.size; omega))))))))
  clear hb2
  obtain ⟨B, z0, z1, z2, y0, y1, y2, hs⟩ := HZ.out
  have HB := Lib.hid (And.intro B (And.intro z0 (And.intro z1 z2)))
  have hlt : w.heap.size < w2.heap.size := by omega
  clear B HZ
  go_wp2_with fail
  obtain ⟨k1, k2, k3, k4⟩ := ground_new (w := w) (spans rowsH) (ints rowsS) 54 3 6 3 hlt HB.out.2.1 HB.out.2.2.1 HB.out.2.2.2 HB.out.1 (Nat.le_refl _) _ rfl
  refine bodyPost_ret (v := .agg #[.int .i64 3, .slice (some ⟨w2.heap.size, 0, none⟩) 6 6, .slice (some ⟨w2.heap.size + 1, 0, none⟩) 6 6]) (results_mid rfl _ _ w.heap.size 0 [.int .i64 3, .slice (some ⟨w2.heap.size, 0, none⟩) 6 6, .slice (some ⟨w2.heap.size + 1, 0, none⟩) 6 6] _ rfl k1 Try.underlying25 rfl sizeGround) rfl ?_
  exact ⟨_, _, rfl, k2, k3, k4⟩
end Go.Proofs.Ytdgibmgifgdpbaa
/-
  Closed grounds: reaching, passes, saddles and sides are reckoned, and the answers are these and no others. No program in sight.
-/
namespace Go.Proofs.Ytdgibmgifgdpbaa
open Lim

def reN (g : Gd) (A S : Nat → Bool) : Nat → Nat → Bool
  | 0, _ => false
  | k + 1, c => A c && (S c || (nbrL g.wd g.n c).any fun x => reN g A S k x.toNat)
def fixB (g : Gd) (A S : Nat → Bool) (k : Nat) : Bool := (List.range g.n).all fun c => !reN g A S (k + 1) c || reN g A S k c
theorem reN_sound {g : Gd} (hg : g.Ok) {A S : Nat → Bool} : ∀ k c, c < g.n → reN g A S k c = true → Re g (fun c => A c = true) (fun c => S c = true) c := by
  intro k
  induction k with
  | zero => intro c _ h; cases h
  | succ k ih =>
    intro c hc h
    simp only [reN, Bool.and_eq_true, Bool.or_eq_true, List.any_eq_true] at h
    obtain ⟨hA, hS | ⟨x, hx, hr⟩⟩ := h
    · exact .base hA hS
    · obtain ⟨j, rfl, hj⟩ := mem_nbrL hg.w0 hg.dv hc hx
      exact .step hA hx (ih j hj hr)
theorem reN_complete {g : Gd} {A S : Nat → Bool} {k : Nat} (hA : ∀ c, A c = true → c < g.n) (hf : fixB g A S k = true) {c : Nat} (h : Re g (fun c => A c = true) (fun c => S c = true) c) : reN g A S k c = true := by
  have fix : ∀ c, c < g.n → reN g A S (k + 1) c = true → reN g A S k c = true := fun c hc h2 => by
    have := List.all_eq_true.1 hf c (List.mem_range.2 hc)
    rw [h2] at this
    simpa using this
  induction h with
  | @base c ha hs => exact fix c (hA c ha) (by simp [reN, ha, hs])
  | @step c j ha hn _ ih =>
    refine fix c (hA c ha) ?_
    simp only [reN, Bool.and_eq_true, Bool.or_eq_true, List.any_eq_true]
    exact ⟨ha, .inr ⟨(j : Int), hn, by simpa using ih⟩⟩

def lowB (g : Gd) (t : Nat → Int) (h : Int) (c : Nat) : Bool := decide (c < g.n) && (g.ss.getD c 0 == 0 && decide (t c ≤ h))
theorem lowB_iff {g : Gd} {t : Nat → Int} {h : Int} : (fun c => lowB g t h c = true) = Low g t h := by
  funext c
  simp only [lowB, Low, land, Bool.and_eq_true, decide_eq_true_eq, beq_iff_eq, and_assoc]
theorem R_of {g : Gd} (hg : g.Ok) {t : Nat → Int} {s h : Int} {k c : Nat} (hc : c < g.n) (hr : reN g (lowB g t h) (fun c => atB g c s) k c = true) : R g t s h c := by
  have := reN_sound hg k c hc hr
  rw [lowB_iff] at this
  exact this
theorem R_to {g : Gd} {t : Nat → Int} {s h : Int} {k c : Nat} (hf : fixB g (lowB g t h) (fun c => atB g c s) k = true) (hr : R g t s h c) : reN g (lowB g t h) (fun c => atB g c s) k c = true := by
  refine reN_complete (fun c h => ?_) hf ?_
  · simp only [lowB, Bool.and_eq_true, decide_eq_true_eq] at h; exact h.1
  · rw [lowB_iff]; exact hr

def passOK (g : Gd) (t : Nat → Int) (s : Int) (p : Nat → Int) (k : Nat) : Bool :=
  (List.range g.n).all fun c => decide (p c ≤ 10001) && ((!decide (p c < 10001) || reN g (lowB g t (p c)) (fun c => atB g c s) k c) && (fixB g (lowB g t (p c - 1)) (fun c => atB g c s) k && !reN g (lowB g t (p c - 1)) (fun c => atB g c s) k c))
theorem IsPass.check {g : Gd} (hg : g.Ok) {t : Nat → Int} {s : Int} {p : Nat → Int} {k : Nat} (h : passOK g t s p k = true) : IsPass g t s p := by
  have key : ∀ c, c < g.n → p c ≤ 10001 ∧ (p c < 10001 → R g t s (p c) c) ∧ ¬ R g t s (p c - 1) c := fun c hc => by
    have := List.all_eq_true.1 h c (List.mem_range.2 hc)
    simp only [Bool.and_eq_true, decide_eq_true_eq, Bool.or_eq_true, Bool.not_eq_true', decide_eq_false_iff_not] at this
    obtain ⟨h1, h2, h3, h4⟩ := this
    refine ⟨h1, fun hlt => ?_, fun hr => ?_⟩
    · rcases h2 with h2 | h2
      · exact absurd hlt h2
      · exact R_of hg hc h2
    · rw [R_to h3 hr] at h4; cases h4
  refine ⟨fun c hc => (key c hc).1, fun c hc => (key c hc).2.1, fun c hc h hr => ?_⟩
  rcases Int.lt_or_le h (p c) with h5 | h5
  · exact absurd (hr.le (h' := p c - 1) (by omega)) (key c hc).2.2
  · exact h5
def sadOK (g : Gd) (t : Nat → Int) (r : Int) (k : Nat) : Bool :=
  decide (r ≤ 10001) && ((List.range g.n).any (fun c => g.ss.getD c 0 == 0 && (atB g c 1 && reN g (lowB g t r) (fun c => atB g c 2) k c)) && (fixB g (lowB g t (r - 1)) (fun c => atB g c 2) k && (List.range g.n).all (fun c => !(atB g c 1 && reN g (lowB g t (r - 1)) (fun c => atB g c 2) k c))))
theorem IsSaddle.check {g : Gd} (hg : g.Ok) {t : Nat → Int} {r : Int} {k : Nat} (h : sadOK g t r k = true) : IsSaddle g t r := by
  simp only [sadOK, Bool.and_eq_true, decide_eq_true_eq] at h
  obtain ⟨h1, h2, h3, h4⟩ := h
  refine ⟨h1, fun _ => ?_, fun c x ha hR => ?_⟩
  · obtain ⟨c, hc, h5⟩ := List.any_eq_true.1 h2
    simp only [Bool.and_eq_true, beq_iff_eq] at h5
    exact ⟨c, ⟨List.mem_range.1 hc, h5.1⟩, h5.2.1, R_of hg (List.mem_range.1 hc) h5.2.2⟩
  · rcases Int.lt_or_le x r with h5 | h5
    · have hR2 : R g t 2 (r - 1) c := hR.le (by omega)
      have := List.all_eq_true.1 h4 c (List.mem_range.2 (Re.in_A hR).1.1)
      rw [ha, R_to h3 hR2] at this
      cases this
    · exact h5

/-- lower's answer, reckoned -/
def freeA (g : Gd) (p : Nat → Int) (h s : Int) (c : Nat) : Bool := decide (c < g.n) && (g.ss.getD c 0 == 0 && freeB g p h s c)
def lowC (g : Gd) (p : Nat → Int) (sea other : Int) (k c : Nat) : Bool := (List.range g.hs.length).any fun i => reN g (freeA g p ((g.hs.getD i (0, 0)).1) other) (fun c => atB g c sea) k c
def lowOK (g : Gd) (p : Nat → Int) (sea other : Int) (k : Nat) : Bool := (List.range g.hs.length).all fun i => fixB g (freeA g p ((g.hs.getD i (0, 0)).1) other) (fun c => atB g c sea) k
theorem freeA_iff {g : Gd} {p : Nat → Int} {h s : Int} : (fun c => freeA g p h s c = true) = fun c => land g c ∧ freeB g p h s c = true := by
  funext c
  simp only [freeA, land, Bool.and_eq_true, decide_eq_true_eq, beq_iff_eq, and_assoc]
theorem LowAns.closed {g : Gd} (hg : g.Ok) {p : Nat → Int} {sea other : Int} {k : Nat} {o : Nat → Bool} (hp : IsPass g (highT g) other p) (hk : lowOK g p sea other k = true) (h : LowAns g sea other o) {c : Nat} (hc : c < g.n) : o c = lowC g p sea other k c := by
  obtain ⟨aw, hA, ho⟩ := h
  have heq : ∀ c, c < g.n → aw c = p c := fun c hc => hA.unique hp hc
  have hc100 : c < 100 ∨ ¬ c < 100 := by omega
  have hn : g.n ≤ 100 := hg.n1
  rw [Bool.eq_iff_iff, ho]
  unfold lowC
  rw [List.any_eq_true]
  refine ⟨fun ⟨_, i, hi, hr⟩ => ⟨i, List.mem_range.2 hi, ?_⟩, fun ⟨i, hi, hr⟩ => ⟨by omega, i, List.mem_range.1 hi, ?_⟩⟩
  · refine reN_complete (fun c h => ?_) (List.all_eq_true.1 hk i (List.mem_range.2 hi)) ?_
    · simp only [freeA, Bool.and_eq_true, decide_eq_true_eq] at h; exact h.1
    · rw [freeA_iff]
      exact hr.mono (fun c hc => ⟨hc.1, by rw [← freeB_congr hg heq hc.1.1]; exact hc.2⟩) (fun _ _ h => h)
  · have := reN_sound hg k c hc hr
    rw [freeA_iff] at this
    exact this.mono (fun c hc => ⟨hc.1, by rw [freeB_congr hg heq hc.1.1]; exact hc.2⟩) (fun _ _ h => h)
theorem SidesG.closed {g : Gd} (hg : g.Ok) {pa pb pc pd : Nat → Int} {k : Nat} (ha : passOK g (lowT g) 1 pa k = true) (hb : passOK g (highT g) 1 pb k = true) (hc : passOK g (lowT g) 2 pc k = true) (hd : passOK g (highT g) 2 pd k = true)
    (h1 : lowOK g pd 1 2 k = true) (h2 : lowOK g pb 2 1 k = true) {l : List (Bool × Bool × Bool)} (h : SidesG g l) : l = (List.range g.n).map (sideOf g.ss (lowC g pd 1 2 k) (lowC g pb 2 1 k) pa pb pc pd) := by
  obtain ⟨f1, f2, a, b, c, d, hf1, hf2, ka, kb, kc, kd, rfl⟩ := h
  refine List.map_congr_left (fun i hi => ?_)
  have hi := List.mem_range.1 hi
  unfold sideOf
  rw [hf1.closed hg (IsPass.check hg hd) h1 hi, hf2.closed hg (IsPass.check hg hb) h2 hi, ka.unique (IsPass.check hg ha) hi, kb.unique (IsPass.check hg hb) hi, kc.unique (IsPass.check hg hc) hi, kd.unique (IsPass.check hg hd) hi]
theorem sadList_closed {g : Gd} (hg : g.Ok) {pa pc a b : Nat → Int} {y : Int} {k : Nat} (ha : passOK g (lowT g) 1 pa k = true) (hc : passOK g (lowT g) 2 pc k = true) (ka : IsPass g (lowT g) 1 a) (kb : IsPass g (lowT g) 2 b) : sadList g a b y = sadList g pa pc y := by
  unfold sadList
  refine List.filter_congr (fun i hi => ?_)
  have hi := List.mem_range.1 hi
  rw [ka.unique (IsPass.check hg ha) hi, kb.unique (IsPass.check hg hc) hi]
/-- a list of passes as a function -/
def pl (l : List Int) : Nat → Int := fun c => l.getD c 0
theorem parts_no {g : Gd} (hg : g.Ok) (xs : List Nat) (k : Nat) (h : ((List.range g.n).any fun c => atB g c 2 && reN g (fun c => decide (c < g.n) && (g.ss.getD c 0 == 0 && !xs.contains c)) (fun c => atB g c 1) k c) = true) : ¬ PartsG g (nats xs) := by
  intro hp
  obtain ⟨c, hc, h2⟩ := List.any_eq_true.1 h
  simp only [Bool.and_eq_true] at h2
  have h3 := reN_sound hg k c (List.mem_range.1 hc) h2.2
  have h4 := hp c (h3.mono (fun c hc => by
    simp only [Bool.and_eq_true, decide_eq_true_eq, beq_iff_eq, Bool.not_eq_true', List.contains_eq_mem, decide_eq_false_iff_not] at hc
    exact ⟨⟨hc.1, hc.2.1⟩, fun hm => hc.2.2 (mem_nats.1 hm)⟩) (fun _ _ h => h))
  rw [h4] at h2; cases h2.1
end Go.Proofs.Ytdgibmgifgdpbaa
