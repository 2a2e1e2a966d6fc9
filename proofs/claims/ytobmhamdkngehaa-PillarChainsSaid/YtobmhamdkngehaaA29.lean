/-
  Parts of the proof, in the order in which they build: RsC.
-/
import Derived.Test.YtobmhamdkngehaaA27
import Derived.Test.YtobmhamdkngehaaA14
import Derived.Test.YtobmhamdkngehaaA19
set_option linter.unusedVariables false
set_option linter.unusedSimpArgs false
namespace Go.Proofs.Ytobmhamdkngehaa
open Go.RowKit Go.Shelf
open Lim

/-- a box's five cells, of which the third may be written -/
structure FvR (W : World) (q : Nat) (a b : Value) (tl lo hi : Int) : Prop where
  c : (W.cell? ⟨q, 0, none⟩ = some a ∧ W.cell? ⟨q, 1, none⟩ = some b ∧ W.cell? ⟨q, 2, none⟩ = some (.int .i64 tl) ∧ W.cell? ⟨q, 3, none⟩ = some (.int .i64 lo) ∧ W.cell? ⟨q, 4, none⟩ = some (.int .i64 hi))
  y : W.frozen? ⟨q, 2, none⟩ = false
theorem FvR.grow {W W' : World} {q : Nat} {a b : Value} {tl lo hi : Int} (h : FvR W q a b tl lo hi) (hb : Below W.heap.size W W') : FvR W' q a b tl lo hi :=
  ⟨⟨hb.on h.c.1, hb.on h.c.2.1, hb.on h.c.2.2.1, hb.on h.c.2.2.2.1, hb.on h.c.2.2.2.2⟩, (hb.frozen (p := ⟨q, 2, none⟩) (World.block_lt_of_cell? _ _ h.c.1 : q < W.heap.size)).trans h.y⟩
theorem FvR.put {W : World} {q : Nat} {a b : Value} {tl lo hi : Int} (h : FvR W q a b tl lo hi) (t : Int) : FvR (W.setCell ⟨q, 2, none⟩ (.int .i64 t)) q a b t lo hi :=
  ⟨⟨by rw [setCell_offP _ _ (by omega)]; exact h.c.1, by rw [setCell_offP _ _ (by omega)]; exact h.c.2.1, World.cell?_setCell_same' _ _ _ (by rw [h.c.2.2.1]; rfl), by rw [setCell_offP _ _ (by omega)]; exact h.c.2.2.2.1, by rw [setCell_offP _ _ (by omega)]; exact h.c.2.2.2.2⟩, by simpa using h.y⟩
set_option maxRecDepth 20000 in
set_option maxHeartbeats 4000000 in
theorem rTall_any {B : Nat} {p : Pf} {av gv : Value} {i j : Int} {w : World} (hB : B ≤ w.heap.size) (ha : RS B w av p.ats.length (ints p.ats)) (hg : RS B w gv p.gr.length (spans p.gr)) :
    Calls Try.prog 51 #[.agg #[av, gv, .int .i64 p.tall, .int .i64 p.lo, .int .i64 p.hi], .int .i64 i, .int .i64 j] w fun e w' => e = .returned (tallAns p i j) ∧ Below w.heap.size w w' := by
  have h1g : gv.oneCell' = true := by obtain ⟨a, c, rfl, -⟩ := hg; rfl
  have HRG := Lib.hid (And.intro hB (And.intro ha hg))
  obtain ⟨a, ac, rfl, hac⟩ := ha
  obtain ⟨n, hn⟩ : ∃ x, x = p.ats.length := ⟨_, rfl⟩
  have HN : Hid (n = p.n) := Lib.hid hn
  obtain ⟨tl, htl⟩ : ∃ x, x = p.tall := ⟨_, rfl⟩
  obtain ⟨lo, hlo⟩ : ∃ x, x = p.lo := ⟨_, rfl⟩
  obtain ⟨hi, hhi⟩ : ∃ x, x = p.hi := ⟨_, rfl⟩
  have HT := Lib.hid (And.intro htl (And.intro hlo hhi))
  have HCK : Hid (∀ W, Below w.heap.size w W → Calls Try.prog 47 #[.agg #[.slice a n ac, gv, .int .i64 tl, .int .i64 lo, .int .i64 hi]] W fun e w' => e = .returned (.int .i64 p.err) ∧ Below W.heap.size W w') := Lib.hid fun W hW => by
    rw [hn, htl, hlo, hhi]
    exact rCheck_any (Nat.le_trans HRG.out.1 hW.size) (HRG.out.2.1.below (hW.mono HRG.out.1)) (HRG.out.2.2.below (hW.mono HRG.out.1))
  have HSR : Hid (∀ (hp : p.Ok) (i j : Nat) W, Below w.heap.size w W → i < p.n → j < p.n → Calls Try.prog 92 #[.agg #[.slice a n ac, gv, .int .i64 tl, .int .i64 lo, .int .i64 hi], .int .i64 (i : Int), .int .i64 (j : Int)] W fun e w' => e = .returned (.bool (p.sure i j)) ∧ Below W.heap.size W w') := Lib.hid fun hp i j W hW h1 h2 => by
    rw [hn, htl, hlo, hhi]
    exact rsure_any hp h1 h2 (Nat.le_trans HRG.out.1 hW.size) (HRG.out.2.1.below (hW.mono HRG.out.1)) (HRG.out.2.2.below (hW.mono HRG.out.1))
  have HSS : Hid (∀ W, Below w.heap.size w W → Calls Try.prog 50 #[.agg #[.slice a n ac, gv, .int .i64 tl, .int .i64 lo, .int .i64 hi], .int .i64 i, .int .i64 j] W fun e w' => e = .returned (seesAns p i j) ∧ Below W.heap.size W w') := Lib.hid fun W hW => by
    rw [hn, htl, hlo, hhi]
    exact rSees_any (Nat.le_trans HRG.out.1 hW.size) (HRG.out.2.1.below (hW.mono HRG.out.1)) (HRG.out.2.2.below (hW.mono HRG.out.1))
  clear HSR
  have HSR : Hid (∀ t : Int, 0 ≤ t → t ≤ 2000 → ∀ (hp : p.Ok) (i j : Nat) W, Below w.heap.size w W → i < p.n → j < p.n → Calls Try.prog 92 #[.agg #[.slice a n ac, gv, .int .i64 t, .int .i64 lo, .int .i64 hi], .int .i64 (i : Int), .int .i64 (j : Int)] W fun e w' => e = .returned (.bool ((p.at t).sure i j)) ∧ Below W.heap.size W w') := Lib.hid fun t h0 h20 hp i j W hW h1 h2 => by
    rw [hn, hlo, hhi]
    exact rsure_any (p := p.at t) ⟨hp.n2, hp.n40, hp.gn, hp.ats, hp.gr, ⟨h0, h20⟩, hp.bend, hp.up⟩ h1 h2 (Nat.le_trans HRG.out.1 hW.size) (HRG.out.2.1.below (hW.mono HRG.out.1)) (HRG.out.2.2.below (hW.mono HRG.out.1))
  have HFZ : (w.alloc (.cells #[.slice a n ac, gv, .int .i64 tl, .int .i64 lo, .int .i64 hi] 35)).frozen? ⟨w.heap.size, 2, none⟩ = false := by simp [go_sem]
  rw [← hn, ← htl, ← hlo, ← hhi]
  have HMB : Hid (Below w.heap.size w (w.alloc (.cells #[.slice a n ac, gv, .int .i64 tl, .int .i64 lo, .int .i64 hi] 35))) := Lib.hid ((Below.refl _ w).alloc (Nat.le_refl _) _)
  have HM : Hid ((fun W => (W.cell? ⟨w.heap.size, 0, none⟩ = some (.slice a n ac) ∧ W.cell? ⟨w.heap.size, 1, none⟩ = some gv ∧ W.cell? ⟨w.heap.size, 2, none⟩ = some (.int .i64 tl) ∧ W.cell? ⟨w.heap.size, 3, none⟩ = some (.int .i64 lo) ∧ W.cell? ⟨w.heap.size, 4, none⟩ = some (.int .i64 hi))) (w.alloc (.cells #[.slice a n ac, gv, .int .i64 tl, .int .i64 lo, .int .i64 hi] 35))) := Lib.hid ⟨by simp [go_sem], by simp [go_sem], by simp [go_sem], by simp [go_sem], by simp [go_sem]⟩
  clear hac hn htl hlo hhi hB hg
  go_enter Try.func51, Try.ntmps51
  go_upto_region 1 with (fail)
  obtain ⟨q, hq⟩ : ∃ q, q = w.heap.size := ⟨_, rfl⟩
  have HQ := Lib.hid hq
  rw [← hq] at HM HFZ
  simp only [← hq]
  clear hq
  generalize w.alloc (.cells #[.slice a n ac, gv, .int .i64 tl, .int .i64 lo, .int .i64 hi] 35) = w1 at HM HMB HFZ ⊢
  obtain ⟨k0, k1, k2, k3, k4⟩ := HM.out
  clear HM
  go_wp2_with fail
  refine (HSS.out _ HMB.out).mono ?_
  rintro e w2 ⟨rfl, hb2⟩
  have y2 : w2.frozen? ⟨q, 2, none⟩ = false := (hb2.frozen (p := ⟨q, 2, none⟩) (World.block_lt_of_cell? _ _ k2)).trans HFZ
  replace k0 := hb2.on k0
  replace k1 := hb2.on k1
  replace k2 := hb2.on k2
  replace k3 := hb2.on k3
  replace k4 := hb2.on k4
  have HB2 : Hid (Below w.heap.size w w2) := Lib.hid (HMB.out.trans (hb2.mono HMB.out.size))
  have HQ2 : Hid (w.heap.size ≤ q) := Lib.hid (by rw [HQ.out]; exact Nat.le_refl _)
  clear hb2 HMB HCK HSS HFZ
  obtain ⟨er, her⟩ : ∃ x, x = p.err := ⟨_, rfl⟩
  have HER := Lib.hid her
  by_cases he : er = 0
  · have HOK : Hid (p.err = 0 ∧ p.Ok) := Lib.hid ⟨by rw [← her, he], err_ok (by rw [← her, he])⟩
    have HN40 : Hid (2 ≤ n ∧ n ≤ 40) := Lib.hid ⟨by rw [HN.out]; exact HOK.out.2.n2, by rw [HN.out]; exact HOK.out.2.n40⟩
    clear he her
    cases h2 : twoS p.n i j with
    | false =>
      rw [show seesAns p i j = .tuple #[.bool false, .bool false, .int .i64 2] by unfold seesAns; rw [if_neg (fun h => h HOK.out.1), h2, if_neg (by decide)]]
      have HE : Hid (tallAns p i j = .tuple #[.int .i64 0, .int .i64 2]) := Lib.hid (by unfold tallAns; rw [if_neg (fun h => h HOK.out.1), h2, if_neg (by decide)])
      clear h2 k0 k1 k2 k3 k4 y2
      go_wp2
      go_ret2
      exact ⟨by rw [HE.out]; rfl, HB2.out⟩
    | true =>
      rw [show seesAns p i j = .tuple #[.bool (p.sees true false i.toNat j.toNat), .bool (p.sure i.toNat j.toNat), .int .i64 0] by unfold seesAns; rw [if_neg (fun h => h HOK.out.1), h2, if_pos rfl]]
      have h3 : 0 ≤ i ∧ i < p.n ∧ 0 ≤ j ∧ j < p.n ∧ i ≠ j := by
        have h4 := h2
        unfold twoS at h4
        rw [Bool.and_eq_true, Bool.and_eq_true, inR_iff, inR_iff, decide_eq_true_eq] at h4
        omega
      obtain ⟨i', rfl⟩ : ∃ x : Nat, i = (x : Int) := ⟨i.toNat, by omega⟩
      obtain ⟨j', rfl⟩ : ∃ x : Nat, j = (x : Int) := ⟨j.toNat, by omega⟩
      obtain ⟨T, hT⟩ : ∃ T, T = tallTo p (min i' j') (max i' j') (max i' j' - min i' j' - 1) := ⟨_, rfl⟩
      have HE : Hid (tallAns p i' j' = if 2000 < T then .tuple #[.int .i64 0, .int .i64 11] else .tuple #[.int .i64 T, .int .i64 0]) := Lib.hid (by
        unfold tallAns; rw [if_neg (fun h => h HOK.out.1), h2, if_pos rfl]
        simp only [Int.toNat_natCast]
        rw [← hT])
      have HSU : Hid (∀ t : Int, 0 ≤ t → t ≤ 2000 → ∀ W, Below w.heap.size w W → Calls Try.prog 92 #[.agg #[.slice a n ac, gv, .int .i64 t, .int .i64 lo, .int .i64 hi], .int .i64 (i' : Int), .int .i64 (j' : Int)] W fun e w' => e = .returned (.bool (decide (T ≤ t))) ∧ Below W.heap.size W w') := Lib.hid fun t h0 h20 W hW => by
        have h5 := HSR.out t h0 h20 HOK.out.2 i' j' W hW (by omega) (by omega)
        have e : (p.at t).sure i' j' = decide (T ≤ t) := by
          rw [Bool.eq_iff_iff, decide_eq_true_eq, hT]
          exact tall_law (p := p) (t := t) (by omega) (HOK.out.2.lt (by omega) (by omega)) h0
        rw [e] at h5
        exact h5
      have HT0 : Hid (0 ≤ T) := Lib.hid (by rw [hT]; exact tallTo_nonneg _ _ _ _)
      clear h2 h3 hT HSR HER
      obtain ⟨s1, hs1⟩ : ∃ s, s = p.sees true false i' j' := ⟨_, rfl⟩
      obtain ⟨s2, hs2⟩ : ∃ s, s = p.sure i' j' := ⟨_, rfl⟩
      simp only [Int.toNat_natCast]
      rw [← hs1, ← hs2]
      clear hs1 hs2
      go_upto_region 5 with (fail)
      have HB3 : Hid (Below w.heap.size w (w2.setCell ⟨q, 2, none⟩ (.int .i64 2000))) := Lib.hid (HB2.out.setCell (p := ⟨q, 2, none⟩) HQ2.out _)
      have HC3 : Hid (FvR (w2.setCell ⟨q, 2, none⟩ (.int .i64 2000)) q (.slice a n ac) gv 2000 lo hi) := Lib.hid ⟨⟨by rw [setCell_offP _ _ (by omega)]; exact k0, by rw [setCell_offP _ _ (by omega)]; exact k1, World.cell?_setCell_same' _ _ _ (by rw [k2]; rfl), by rw [setCell_offP _ _ (by omega)]; exact k3, by rw [setCell_offP _ _ (by omega)]; exact k4⟩, by simpa using y2⟩
      clear k0 k1 k2 k3 k4 y2 HB2
      generalize w2.setCell ⟨q, 2, none⟩ (.int .i64 2000) = w3 at HB3 HC3 ⊢
      obtain ⟨⟨k0, k1, k2, k3, k4⟩, y2⟩ := HC3.out
      go_wp2_with fail
      refine (HSU.out 2000 (by omega) (by omega) _ HB3.out).mono ?_
      rintro e w4 ⟨rfl, hb4⟩
      have HB4 : Hid (Below w.heap.size w w4) := Lib.hid (HB3.out.trans (hb4.mono HB3.out.size))
      have HC4 : Hid (FvR w4 q (.slice a n ac) gv 2000 lo hi) := Lib.hid (HC3.out.grow hb4)
      clear k0 k1 k2 k3 k4 y2 HB3 HC3 hb4
      by_cases hT2 : T ≤ 2000
      · rw [decide_eq_true hT2]
        have HE2 : Hid (tallAns p i' j' = .tuple #[.int .i64 T, .int .i64 0]) := Lib.hid (by rw [HE.out, if_neg (by omega)])
        have HT2 := Lib.hid hT2
        clear hT2 HE
        go_wp2_with fail
        go_loopw [11, 12] (fun lv hv W => ∃ l h t : Int, lv = .int .i64 l ∧ hv = .int .i64 h ∧ -1 ≤ l ∧ l < h ∧ h ≤ 2000 ∧ Hid (l < T ∧ T ≤ h) ∧ Hid (Below w.heap.size w W) ∧ Hid (FvR W q (.slice a n ac) gv t lo hi)) (fun lv hv _ => (intOf hv - intOf lv).toNat)
        case atStart => exact ⟨-1, 2000, 2000, rfl, rfl, by omega, by omega, by omega, Lib.hid ⟨by have := HT0.out; omega, HT2.out⟩, HB4, HC4⟩
        case round =>
          obtain ⟨l, h, t, rfl, rfl, hl1, hlh, hh2, hlT, hbr, hcr⟩ := hrel
          have ws : IntKind.i64.wrap (h - l) = h - l := IntWalk.i64_in _ (by omega)
          by_cases hd : 1 < h - l
          · obtain ⟨t1, ht1⟩ : ∃ t1, t1 = (l + h + 1) / 2 := ⟨_, rfl⟩
            have hb1 : 0 ≤ t1 ∧ l < t1 ∧ t1 < h := by omega
            have d1 : decide (1 < h - l) = true := decide_eq_true hd
            have ww1 : IntKind.i64.wrap (l + h) = l + h := IntWalk.i64_in _ (by omega)
            have ww2 : IntKind.i64.wrap (l + h + 1) = l + h + 1 := IntWalk.i64_in _ (by omega)
            have ww3 : (l + h + 1).tdiv 2 = t1 := by rw [ht1]; exact Int.tdiv_eq_ediv_of_nonneg (by omega)
            have ww4 : IntKind.i64.wrap t1 = t1 := IntWalk.i64_in _ (by omega)
            have d2 : (t1 == h) = false := beq_eq_false_iff_ne.2 (by omega)
            obtain ⟨⟨k0, k1, k2, k3, k4⟩, y2⟩ := hcr.out
            have HH := Lib.hid (And.intro hb1 ht1)
            clear ht1 hb1
            go_upto_region 10 with (fail)
            have HB5 : Hid (Below w.heap.size w (wr.setCell ⟨q, 2, none⟩ (.int .i64 t1))) := Lib.hid (hbr.out.setCell (p := ⟨q, 2, none⟩) HQ2.out _)
            have HC5 : Hid (FvR (wr.setCell ⟨q, 2, none⟩ (.int .i64 t1)) q (.slice a n ac) gv t1 lo hi) := Lib.hid (hcr.out.put t1)
            clear k0 k1 k2 k3 k4 y2 hbr hcr
            generalize wr.setCell ⟨q, 2, none⟩ (.int .i64 t1) = w5 at HB5 HC5 ⊢
            obtain ⟨⟨k0, k1, k2, k3, k4⟩, y2⟩ := HC5.out
            go_wp2_with fail
            refine (HSU.out t1 HH.out.1.1 (by have := HH.out.1; omega) _ HB5.out).mono ?_
            rintro e w6 ⟨rfl, hb6⟩
            have HB6 : Hid (Below w.heap.size w w6) := Lib.hid (HB5.out.trans (hb6.mono HB5.out.size))
            have HC6 : Hid (FvR w6 q (.slice a n ac) gv t1 lo hi) := Lib.hid (HC5.out.grow hb6)
            clear k0 k1 k2 k3 k4 y2 HB5 HC5 hb6
            obtain ⟨⟨k0, k1, k2, k3, k4⟩, y2⟩ := HC6.out
            by_cases hTt : T ≤ t1
            · rw [decide_eq_true hTt]
              have HTT := Lib.hid hTt
              clear hTt
              go_wp2
              go_roundw
              case rel => exact ⟨l, t1, t1, rfl, rfl, hl1, HH.out.1.2.1, by have := HH.out.1; omega, Lib.hid ⟨hlT.out.1, HTT.out⟩, HB6, HC6⟩
              case measure =>
                have := HH.out.1
                simp [intOf]; omega
            · rw [decide_eq_false hTt]
              have HTT := Lib.hid hTt
              clear hTt
              go_wp2
              go_roundw
              case rel => exact ⟨t1, h, t1, rfl, rfl, by have := HH.out.1; omega, HH.out.1.2.2, hh2, Lib.hid ⟨by have := HTT.out; omega, hlT.out.2⟩, HB6, HC6⟩
              case measure =>
                have := HH.out.1
                simp [intOf]; omega
          · have d1 : decide (1 < h - l) = false := decide_eq_false hd
            have HTH : Hid (T = h) := Lib.hid (by have := hlT.out; omega)
            go_wp2
            go_ret2
            exact ⟨by rw [HE2.out, HTH.out]; rfl, hbr.out⟩
      · rw [decide_eq_false hT2]
        have HE2 : Hid (tallAns p i' j' = .tuple #[.int .i64 0, .int .i64 11]) := Lib.hid (by rw [HE.out, if_pos (by omega)])
        clear hT2
        go_wp2
        go_ret2
        exact ⟨by rw [HE2.out]; rfl, HB4.out⟩
  · rw [show seesAns p i j = .tuple #[.bool false, .bool false, .int .i64 er] by unfold seesAns; rw [if_pos (by rw [← her]; exact he), her]]
    have HE : Hid (tallAns p i j = .tuple #[.int .i64 0, .int .i64 er]) := Lib.hid (by unfold tallAns; rw [if_pos (by rw [← her]; exact he), her])
    have d1 : (er != 0) = true := by rw [bne_iff_ne]; exact he
    clear k0 k1 k2 k3 k4 y2 her he
    go_wp2
    go_ret2
    exact ⟨by rw [HE.out]; rfl, HB2.out⟩
end Go.Proofs.Ytobmhamdkngehaa
