/-
  Parts of the proof, in the order in which they build: EvX.
-/
import Derived.Test.YtkjcnkkmhkcddaaA26
set_option linter.unusedVariables false
set_option linter.unusedSimpArgs false
namespace Go.Proofs.Ytkjcnkkmhkcddaa
open Go.RowKit Go.Shelf
open Lim


set_option maxHeartbeats 400000 in
theorem few_any (n : Int) (w : World) : Calls Try.prog 90 #[.int .i64 n] w fun e w' => e = .returned (.bool (inB n 0 1000)) ∧ w = w' := by
  go_enter Try.func90, Try.ntmps90
  go_wp2_with (go_at_call 48; refine (in_any _ _ _ _).mono ?_; rintro e w' ⟨rfl, rfl⟩)
  go_ret
  exact ⟨rfl, rfl⟩
set_option maxHeartbeats 400000 in
theorem whose_any (n : Int) (w : World) : Calls Try.prog 91 #[.int .i64 n] w fun e w' => e = .returned (.bool (inB n (-1) 1)) ∧ w = w' := by
  go_enter Try.func91, Try.ntmps91
  go_wp2_with (go_at_call 48; refine (in_any _ _ _ _).mono ?_; rintro e w' ⟨rfl, rfl⟩)
  go_ret
  exact ⟨rfl, rfl⟩
theorem says_few (os : List Int) (w : World) : Says 90 #[] os.length (fun k => .int .i64 (os.getD k 0)) (fun k => inB (os.getD k 0) 0 1000) w := by
  intro k hk W hb
  simp only [Array.append_empty]
  exact (few_any _ W).mono (fun e w' h => ⟨h.1, by rw [← h.2]; exact Below.refl _ _⟩)
theorem says_whose (os : List Int) (w : World) : Says 91 #[] os.length (fun k => .int .i64 (os.getD k 0)) (fun k => inB (os.getD k 0) (-1) 1) w := by
  intro k hk W hb
  simp only [Array.append_empty]
  exact (whose_any _ W).mono (fun e w' h => ⟨h.1, by rw [← h.2]; exact Below.refl _ _⟩)
theorem cell_of_RS {B : Nat} {W : World} {a : Option Addr} {c n p : Nat} {xs : List Int} (h : RS B W (.slice a n c) n (ints xs)) (hp : p < xs.length) : ∃ g o, a = some ⟨g, o, none⟩ ∧ W.cell? ⟨g, o + p, none⟩ = some (.int .i64 (xs.getD p 0)) := by
  obtain ⟨a', c', h1, hc⟩ := h
  cases h1
  obtain ⟨g, off, rfl, hb, hcell⟩ := hc (ints_ne (by omega))
  exact ⟨g, off, rfl, by rw [List.getD_eq_getElem?_getD]; exact hcell p _ (ints_at' xs p hp)⟩
/-- houses that look out of the land -/
def badL (wd : Nat) (es ss : List Int) (n q : Nat) : Bool := (decide (q % wd + 1 = wd) && decide (0 < es.getD q 0)) || (decide (n ≤ q + wd) && decide (0 < ss.getD q 0))
def sizL (wd : Int) (os es ss : List Int) : Bool := countB wd os.length && decide (es.length = os.length) && decide (ss.length = os.length)
def valL (os es ss : List Int) : Bool := ((List.range os.length).all fun k => inB (os.getD k 0) (-1) 1) && ((List.range es.length).all fun k => inB (es.getD k 0) 0 1000) && ((List.range ss.length).all fun k => inB (ss.getD k 0) 0 1000)
/-- the error of a land -/
def errL (wd : Int) (os es ss : List Int) : Int :=
  if sizL wd os es ss = true then (if valL os es ss = true then (if ((List.range os.length).any fun q => badL wd.toNat es ss os.length q) = true then 4 else if 0 ∈ os ∧ 1 ∈ os then 0 else 7) else 4) else 3
set_option maxRecDepth 20000 in
set_option maxHeartbeats 1000000 in
theorem CheckLand_any {B : Nat} {wd : Int} {ov ev sv : Value} {os es ss : List Int} {w : World} (hl : os.length ≤ 100000 ∧ es.length ≤ 100000 ∧ ss.length ≤ 100000) (hB : B ≤ w.heap.size) (hv : RS B w ov os.length (ints os)) (he : RS B w ev es.length (ints es)) (hs : RS B w sv ss.length (ints ss)) :
    Calls Try.prog 57 #[.agg #[.int .i64 wd, ov, ev, sv]] w fun e w' => e = .returned (.int .i64 (errL wd os es ss)) ∧ Below w.heap.size w w' := by
  have HV := Lib.hid (And.intro hv (And.intro he hs))
  have HL := Lib.hid (And.intro hB hl)
  obtain ⟨oa, oc, rfl, -⟩ := hv
  obtain ⟨ea, ec, rfl, -⟩ := he
  obtain ⟨sa, sc, rfl, -⟩ := hs
  clear hl hB
  have HB := Lib.hid (show Below w.heap.size w (w.alloc (.cells #[.int .i64 wd, .slice oa os.length oc, .slice ea es.length ec, .slice sa ss.length sc] 44)) from (Below.refl _ w).alloc (Nat.le_refl _) _)
  have f0 : (w.alloc (.cells #[.int .i64 wd, .slice oa os.length oc, .slice ea es.length ec, .slice sa ss.length sc] 44)).cell? ⟨w.heap.size, 0, none⟩ = some (.int .i64 wd) := by simp [go_sem]
  have f1 : (w.alloc (.cells #[.int .i64 wd, .slice oa os.length oc, .slice ea es.length ec, .slice sa ss.length sc] 44)).cell? ⟨w.heap.size, 1, none⟩ = some (.slice oa os.length oc) := by simp [go_sem]
  have f2 : (w.alloc (.cells #[.int .i64 wd, .slice oa os.length oc, .slice ea es.length ec, .slice sa ss.length sc] 44)).cell? ⟨w.heap.size, 2, none⟩ = some (.slice ea es.length ec) := by simp [go_sem]
  have f3 : (w.alloc (.cells #[.int .i64 wd, .slice oa os.length oc, .slice ea es.length ec, .slice sa ss.length sc] 44)).cell? ⟨w.heap.size, 3, none⟩ = some (.slice sa ss.length sc) := by simp [go_sem]
  go_enter Try.func57, Try.ntmps57
  go_wp2_with fail
  generalize w.alloc (.cells #[.int .i64 wd, .slice oa os.length oc, .slice ea es.length ec, .slice sa ss.length sc] 44) = w1 at HB f0 f1 f2 f3 ⊢
  refine (plan_any).mono ?_
  rintro e w2 ⟨rfl, hb⟩
  replace f0 := hb.on f0
  replace f1 := hb.on f1
  replace f2 := hb.on f2
  replace f3 := hb.on f3
  replace HB := Lib.hid (HB.out.trans (hb.mono HB.out.size))
  clear hb
  go_wp2_with fail
  refine (counted_any).mono ?_
  rintro e w3 ⟨rfl, hb⟩
  replace f0 := hb.on f0
  replace f1 := hb.on f1
  replace f2 := hb.on f2
  replace f3 := hb.on f3
  replace HB := Lib.hid (HB.out.trans (hb.mono HB.out.size))
  clear hb w1 w2
  cases hc : countB wd os.length with
  | false =>
    have HE : Hid (errL wd os es ss = 3) := Lib.hid (by simp [errL, sizL, hc])
    clear hc
    go_wp2_with fail
    go_ret
    exact ⟨by rw [HE.out]; rfl, HB.out⟩
  | true =>
    by_cases h2 : es.length = os.length
    · have d2 : ((es.length : Int) != os.length) = false := by simp [h2]
      by_cases h3 : ss.length = os.length
      · have d3 : ((ss.length : Int) != os.length) = false := by simp [h3]
        have HZ : Hid (sizL wd os es ss = true) := Lib.hid (by simp [sizL, hc, h2, h3])
        have HC := Lib.hid (And.intro hc (And.intro h2 h3))
        clear hc h2 h3
        have HE4 := Lib.hid (every_any (B := B) (p := fun k => inB (os.getD k 0) (-1) 1) (enters_of Try.func91 (by kernel_rfl) rfl) HL.out.2.1 (HV.out.1.below (HB.out.mono HL.out.1)) (by have := HB.out.size; have := HL.out.1; omega) (says_whose os _))
        go_wp2_with fail
        refine HE4.out.mono ?_
        rintro e w4 ⟨rfl, hb⟩
        replace f0 := hb.on f0
        replace f1 := hb.on f1
        replace f2 := hb.on f2
        replace f3 := hb.on f3
        replace HB := Lib.hid (HB.out.trans (hb.mono HB.out.size))
        clear hb HE4
        obtain ⟨z1, hz1⟩ : ∃ z, z = (List.range os.length).all fun k => inB (os.getD k 0) (-1) 1 := ⟨_, rfl⟩
        rw [← hz1]
        have Hz1 := Lib.hid hz1
        clear hz1
        cases z1 with
        | false =>
          have HE : Hid (errL wd os es ss = 4) := Lib.hid (by simp only [errL, HZ.out, if_true]; rw [if_neg]; simp only [valL, ← Hz1.out]; simp)
          go_wp2_with fail
          go_ret
          exact ⟨by rw [HE.out]; rfl, HB.out⟩
        | true =>
          have HE5 := Lib.hid (every_any (B := B) (p := fun k => inB (es.getD k 0) 0 1000) (enters_of Try.func90 (by kernel_rfl) rfl) HL.out.2.2.1 (HV.out.2.1.below (HB.out.mono HL.out.1)) (by have := HB.out.size; have := HL.out.1; omega) (says_few es _))
          go_wp2_with fail
          refine HE5.out.mono ?_
          rintro e w5 ⟨rfl, hb⟩
          replace f0 := hb.on f0
          replace f1 := hb.on f1
          replace f2 := hb.on f2
          replace f3 := hb.on f3
          replace HB := Lib.hid (HB.out.trans (hb.mono HB.out.size))
          clear hb HE5
          obtain ⟨z2, hz2⟩ : ∃ z, z = (List.range es.length).all fun k => inB (es.getD k 0) 0 1000 := ⟨_, rfl⟩
          rw [← hz2]
          have Hz2 := Lib.hid hz2
          clear hz2
          cases z2 with
          | false =>
            have HE : Hid (errL wd os es ss = 4) := Lib.hid (by simp only [errL, HZ.out, if_true]; rw [if_neg]; simp only [valL, ← Hz1.out, ← Hz2.out]; simp)
            go_wp2_with fail
            go_ret
            exact ⟨by rw [HE.out]; rfl, HB.out⟩
          | true =>
            have HE6 := Lib.hid (every_any (B := B) (p := fun k => inB (ss.getD k 0) 0 1000) (enters_of Try.func90 (by kernel_rfl) rfl) HL.out.2.2.2 (HV.out.2.2.below (HB.out.mono HL.out.1)) (by have := HB.out.size; have := HL.out.1; omega) (says_few ss _))
            go_wp2_with fail
            refine HE6.out.mono ?_
            rintro e w6 ⟨rfl, hb⟩
            replace f0 := hb.on f0
            replace f1 := hb.on f1
            replace f2 := hb.on f2
            replace f3 := hb.on f3
            replace HB := Lib.hid (HB.out.trans (hb.mono HB.out.size))
            clear hb HE6
            obtain ⟨z3, hz3⟩ : ∃ z, z = (List.range ss.length).all fun k => inB (ss.getD k 0) 0 1000 := ⟨_, rfl⟩
            rw [← hz3]
            have Hz3 := Lib.hid hz3
            clear hz3
            cases z3 with
            | false =>
              have HE : Hid (errL wd os es ss = 4) := Lib.hid (by simp only [errL, HZ.out, if_true]; rw [if_neg]; simp only [valL, ← Hz1.out, ← Hz2.out, ← Hz3.out]; simp)
              go_wp2_with fail
              go_ret
              exact ⟨by rw [HE.out]; rfl, HB.out⟩
            | true =>
              have HVL : Hid (valL os es ss = true) := Lib.hid (by simp only [valL, ← Hz1.out, ← Hz2.out, ← Hz3.out]; rfl)
              clear Hz1 Hz2 Hz3 w3 w4 w5
              have HWD := Lib.hid (countB_ok HC.out.1)
              obtain ⟨m, hm⟩ : ∃ m : Nat, wd = m := ⟨wd.toNat, HWD.out.2⟩
              rw [hm] at f0
              have HM := Lib.hid hm
              have hm0 : ¬ (m : Int) = 0 := by have := HWD.out.1.w0; simp only [hm, Int.toNat_natCast] at this; omega
              have hmn : m ≤ os.length := by have h := HWD.out.1.wn; simp only [hm, Int.toNat_natCast] at h; exact h
              have hn1 : os.length ≤ 100 := HWD.out.1.n1
              have hx : IntKind.i64.wrap ((os.length : Int) - m) = (os.length : Int) - m := IntWalk.i64_in _ (by omega)
              have hy : IntKind.i64.wrap ((m : Int) - 1) = (m : Int) - 1 := IntWalk.i64_in _ (by omega)
              clear hm
              go_wp2_with fail
              go_loopw [46] (fun v wr => ∃ q : Nat, q ≤ os.length ∧ v = .int .i64 q ∧ wr.cell? ⟨w.heap.size, 0, none⟩ = some (.int .i64 m) ∧ wr.cell? ⟨w.heap.size, 1, none⟩ = some (.slice oa os.length oc) ∧ wr.cell? ⟨w.heap.size, 2, none⟩ = some (.slice ea es.length ec) ∧ wr.cell? ⟨w.heap.size, 3, none⟩ = some (.slice sa ss.length sc) ∧ Hid (Below w.heap.size w wr ∧ ∀ j, j < q → badL wd.toNat es ss os.length j = false)) (fun v _ => os.length - (intOf v).toNat)
              case atStart => exact ⟨0, Nat.zero_le _, rfl, f0, f1, f2, f3, Lib.hid ⟨HB.out, fun j hj => absurd hj (Nat.not_lt_zero _)⟩⟩
              case round =>
                clear f0 f1 f2 f3 HB
                obtain ⟨q, hq, rfl, f0, f1, f2, f3, hI⟩ := hrel
                by_cases hlt : q < os.length
                · have hlt64 : (q : Int) < os.length := by omega
                  obtain ⟨r, hr⟩ : ∃ r, r = q % m := ⟨_, rfl⟩
                  have e5 : (q : Int).tmod (m : Int) = (r : Int) := by rw [hr]; exact (Int.ofNat_tmod q m).symm
                  obtain ⟨x, hx1⟩ : ∃ x, x = es.getD q 0 := ⟨_, rfl⟩
                  obtain ⟨y, hy1⟩ : ∃ y, y = ss.getD q 0 := ⟨_, rfl⟩
                  have HX := Lib.hid (cell_of_RS ((HV.out.2.1).below (hI.out.1.mono HL.out.1)) (p := q) (by have := HC.out.2.1; omega))
                  have HY := Lib.hid (cell_of_RS ((HV.out.2.2).below (hI.out.1.mono HL.out.1)) (p := q) (by have := HC.out.2.2; omega))
                  obtain ⟨gx, ox, hgx, cx⟩ := HX.out
                  obtain ⟨gy, oy, hgy, cy⟩ := HY.out
                  rw [← hx1] at cx
                  rw [← hy1] at cy
                  subst hgx
                  subst hgy
                  have hqe : q < es.length := by have := HC.out.2.1; omega
                  have hqs : q < ss.length := by have := HC.out.2.2; omega
                  have HQ : Hid (badL wd.toNat es ss os.length q = ((decide (r + 1 = m) && decide (0 < x)) || (decide (os.length ≤ q + m) && decide (0 < y)))) := Lib.hid (by rw [hr, hx1, hy1, HM.out]; rfl)
                  clear hr hx1 hy1 HX HY
                  replace hlt := Lib.hid hlt
                  by_cases h1 : r + 1 = m
                  · have d1 : ((r : Int) == (m : Int) - 1) = true := by rw [beq_iff_eq]; omega
                    by_cases h2 : 0 < x
                    · have d2 : decide (0 < x) = true := by simp; omega
                      have HBAD : Hid (badL wd.toNat es ss os.length q = true) := Lib.hid (by rw [HQ.out]; simp [h1, h2])
                      clear h1 h2
                      go_wp2_with fail
                      go_quiet (fail)
                      go_wp2_with fail
                      go_ret
                      exact ⟨by rw [errL, if_pos HZ.out, if_pos HVL.out, if_pos (List.any_eq_true.2 ⟨q, by simp [hlt.out], HBAD.out⟩)]; rfl, below_drewN hI.out.1 _⟩
                    · have d2 : decide (0 < x) = false := by simp; omega
                      by_cases h3 : os.length ≤ q + m
                      · by_cases h4 : 0 < y
                        · have d3 : decide ((os.length : Int) - m ≤ q) = true := by simp; omega
                          have d4 : decide (0 < y) = true := by simp; omega
                          have HBAD : Hid (badL wd.toNat es ss os.length q = true) := Lib.hid (by rw [HQ.out]; simp [h3, h4])
                          clear h1 h2 h3 h4
                          go_wp2_with fail
                          go_quiet (fail)
                          go_wp2_with fail
                          go_ret
                          exact ⟨by rw [errL, if_pos HZ.out, if_pos HVL.out, if_pos (List.any_eq_true.2 ⟨q, by simp [hlt.out], HBAD.out⟩)]; rfl, below_drewN hI.out.1 _⟩
                        · have d3 : decide ((os.length : Int) - m ≤ q) = true := by simp; omega
                          have d4 : decide (0 < y) = false := by simp; omega
                          have HBAD : Hid (badL wd.toNat es ss os.length q = false) := Lib.hid (by rw [HQ.out]; simp [h1, h2, h3, h4])
                          clear h1 h2 h3 h4
                          go_wp2_with fail
                          go_quiet (fail)
                          go_wp2_with fail
                          go_roundw
                          case rel =>
                            exact ⟨q + 1, by have := hlt.out; omega, by go_num, f0, f1, f2, f3, Lib.hid ⟨below_drewN hI.out.1 _, fun j hj => by
                              by_cases e : j = q
                              · rw [e]; exact HBAD.out
                              · exact hI.out.2 j (by omega)⟩⟩
                          case measure => simp [intOf]; have := hlt.out; omega
                      · have d3 : decide ((os.length : Int) - m ≤ q) = false := by simp; omega
                        have HBAD : Hid (badL wd.toNat es ss os.length q = false) := Lib.hid (by rw [HQ.out]; simp [h1, h2, h3])
                        clear h1 h2 h3
                        go_wp2_with fail
                        go_quiet (fail)
                        go_wp2_with fail
                        go_roundw
                        case rel =>
                          exact ⟨q + 1, by have := hlt.out; omega, by go_num, f0, f1, f2, f3, Lib.hid ⟨below_drewN hI.out.1 _, fun j hj => by
                            by_cases e : j = q
                            · rw [e]; exact HBAD.out
                            · exact hI.out.2 j (by omega)⟩⟩
                        case measure => simp [intOf]; have := hlt.out; omega
                  · have d1 : ((r : Int) == (m : Int) - 1) = false := by rw [beq_eq_false_iff_ne]; omega
                    have h2 : True := trivial
                    by_cases h3 : os.length ≤ q + m
                    · by_cases h4 : 0 < y
                      · have d3 : decide ((os.length : Int) - m ≤ q) = true := by simp; omega
                        have d4 : decide (0 < y) = true := by simp; omega
                        have HBAD : Hid (badL wd.toNat es ss os.length q = true) := Lib.hid (by rw [HQ.out]; simp [h3, h4])
                        clear h1 h2 h3 h4
                        go_wp2_with fail
                        go_quiet (fail)
                        go_wp2_with fail
                        go_ret
                        exact ⟨by rw [errL, if_pos HZ.out, if_pos HVL.out, if_pos (List.any_eq_true.2 ⟨q, by simp [hlt.out], HBAD.out⟩)]; rfl, below_drewN hI.out.1 _⟩
                      · have d3 : decide ((os.length : Int) - m ≤ q) = true := by simp; omega
                        have d4 : decide (0 < y) = false := by simp; omega
                        have HBAD : Hid (badL wd.toNat es ss os.length q = false) := Lib.hid (by rw [HQ.out]; simp [h1, h2, h3, h4])
                        clear h1 h2 h3 h4
                        go_wp2_with fail
                        go_quiet (fail)
                        go_wp2_with fail
                        go_roundw
                        case rel =>
                          exact ⟨q + 1, by have := hlt.out; omega, by go_num, f0, f1, f2, f3, Lib.hid ⟨below_drewN hI.out.1 _, fun j hj => by
                            by_cases e : j = q
                            · rw [e]; exact HBAD.out
                            · exact hI.out.2 j (by omega)⟩⟩
                        case measure => simp [intOf]; have := hlt.out; omega
                    · have d3 : decide ((os.length : Int) - m ≤ q) = false := by simp; omega
                      have HBAD : Hid (badL wd.toNat es ss os.length q = false) := Lib.hid (by rw [HQ.out]; simp [h1, h2, h3])
                      clear h1 h2 h3
                      go_wp2_with fail
                      go_quiet (fail)
                      go_wp2_with fail
                      go_roundw
                      case rel =>
                        exact ⟨q + 1, by have := hlt.out; omega, by go_num, f0, f1, f2, f3, Lib.hid ⟨below_drewN hI.out.1 _, fun j hj => by
                          by_cases e : j = q
                          · rw [e]; exact HBAD.out
                          · exact hI.out.2 j (by omega)⟩⟩
                      case measure => simp [intOf]; have := hlt.out; omega
                · have hlt' : ¬ (q : Int) < os.length := by omega
                  obtain rfl : q = os.length := by omega
                  have HBA : Hid ((List.range os.length).any (fun q => badL wd.toNat es ss os.length q) = false) := Lib.hid (by rw [List.any_eq_false]; intro j hj; rw [hI.out.2 j (by simpa using hj)]; simp)
                  have HO := Lib.hid ((HV.out.1).below (hI.out.1.mono HL.out.1))
                  go_wp2_with fail
                  refine (contains_any 0 HL.out.2.1 HO.out).mono ?_
                  rintro e w' ⟨rfl, rfl⟩
                  by_cases h0 : (0 : Int) ∈ os
                  · have g0 : decide ((0 : Int) ∈ os) = true := decide_eq_true h0
                    rw [g0]
                    have H0 := Lib.hid h0
                    clear h0 g0
                    go_wp2_with fail
                    refine (contains_any 1 HL.out.2.1 HO.out).mono ?_
                    rintro e w' ⟨rfl, rfl⟩
                    by_cases h1 : (1 : Int) ∈ os
                    · have g0 : decide ((1 : Int) ∈ os) = true := decide_eq_true h1
                      rw [g0]
                      have HE : Hid (errL wd os es ss = 0) := Lib.hid (by rw [errL, if_pos HZ.out, if_pos HVL.out, HBA.out, if_neg (by simp), if_pos ⟨H0.out, h1⟩])
                      clear h1 g0
                      go_wp2_with fail
                      go_ret
                      exact ⟨by rw [HE.out]; rfl, hI.out.1⟩
                    · have g0 : decide ((1 : Int) ∈ os) = false := decide_eq_false h1
                      rw [g0]
                      have HE : Hid (errL wd os es ss = 7) := Lib.hid (by rw [errL, if_pos HZ.out, if_pos HVL.out, HBA.out, if_neg (by simp), if_neg (fun h => h1 h.2)])
                      clear h1 g0
                      go_wp2_with fail
                      go_ret
                      exact ⟨by rw [HE.out]; rfl, hI.out.1⟩
                  · have g0 : decide ((0 : Int) ∈ os) = false := decide_eq_false h0
                    rw [g0]
                    have HE : Hid (errL wd os es ss = 7) := Lib.hid (by rw [errL, if_pos HZ.out, if_pos HVL.out, HBA.out, if_neg (by simp), if_neg (fun h => h0 h.1)])
                    clear h0 g0
                    go_wp2_with fail
                    go_ret
                    exact ⟨by rw [HE.out]; rfl, hI.out.1⟩
      · have d3 : ((ss.length : Int) != os.length) = true := by rw [bne_iff_ne]; omega
        have d3b : ((ss.length : Int) == os.length) = false := by rw [beq_eq_false_iff_ne]; omega
        have HE : Hid (errL wd os es ss = 3) := Lib.hid (by simp [errL, sizL, h3])
        clear hc h2 h3
        go_wp2_with fail
        go_ret
        exact ⟨by rw [HE.out]; rfl, HB.out⟩
    · have d2 : ((es.length : Int) != os.length) = true := by rw [bne_iff_ne]; omega
      have d2b : ((es.length : Int) == os.length) = false := by rw [beq_eq_false_iff_ne]; omega
      have HE : Hid (errL wd os es ss = 3) := Lib.hid (by simp [errL, sizL, h2])
      clear hc h2
      go_wp2_with fail
      go_ret
      exact ⟨by rw [HE.out]; rfl, HB.out⟩
end Go.Proofs.Ytkjcnkkmhkcddaa
