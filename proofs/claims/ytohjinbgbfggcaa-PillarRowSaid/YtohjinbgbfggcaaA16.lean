/-
  Parts of the proof, in the order in which they build: PiY, PiZ, QiA.
-/
import Derived.BigQuiet
import Derived.Test.YtohjinbgbfggcaaA11
set_option linter.unusedVariables false
set_option linter.unusedSimpArgs false
/-
  Whether pillars hold: the contract of holds.
-/
namespace Go.Proofs.Ytohjinbgbfggcaa
open Go.RowKit Go.Shelf
open Lim

def stepOk (p : Pf) (xs : List Int) (k : Nat) : Bool := decide (xs.getD k 0 < xs.getD (k + 1) 0) && p.sure (xs.getD k 0).toNat (xs.getD (k + 1) 0).toNat
def holdsP (p : Pf) (xs : List Int) : Bool :=
  decide (2 ≤ xs.length) && (decide (xs.getD 0 0 = 0) && (decide (xs.getD (xs.length - 1) 0 = (p.n : Int) - 1) && (List.range (xs.length - 1)).all (stepOk p xs)))
set_option maxRecDepth 20000 in
set_option maxHeartbeats 2000000 in
theorem holds_any {B n b ac : Nat} {a : Option Addr} {p : Pf} {gv v : Value} {xs : List Int} {w : World} (hn : n = p.n) (n40 : n ≤ 40) (hm : xs.length ≤ 90000) (hc : PfC w b p (.slice a n ac) gv) (hk : WkP w b (suTo p n 0)) (hx : ∀ x ∈ xs, 0 ≤ x ∧ x < (n : Int)) (hv : RS B w v xs.length (ints xs)) (hB : B ≤ w.heap.size) :
    Calls Try.prog 78 #[.pointer (some ⟨b, 0, none⟩), v] w fun e w' => e = .returned (.bool (holdsP p xs)) ∧ Below w.heap.size w w' := by
  obtain ⟨va, vc, rfl, hcs⟩ := hv
  obtain ⟨m, hm2⟩ : ∃ m, m = xs.length := ⟨_, rfl⟩
  obtain ⟨r, hr⟩ : ∃ r, r = holdsP p xs := ⟨_, rfl⟩
  have HRR := Lib.hid hr
  rw [← hr]
  have HN := Lib.hid hn
  have HW := Lib.hid (And.intro hc hk)
  have hk0 := hc.c0
  have HMM := Lib.hid hm2
  have HCS := Lib.hid hcs
  have HXX := Lib.hid hx
  rw [← hm2] at hm ⊢
  clear hr hn hc hk hcs hx hm2 hB
  by_cases h2 : m < 2
  · have HE : Hid (r = false) := Lib.hid (by rw [HRR.out, holdsP, decide_eq_false (by have := HMM.out; omega)]; rfl)
    have d1 : decide (m < 2) = true := decide_eq_true h2
    have d2 : decide ((m : Int) < 2) = true := decide_eq_true (by omega)
    clear hk0
    go_enter Try.func78, Try.ntmps78
    go_wp2_with fail
    go_quiet (fail)
    go_wp2
    go_ret
    exact ⟨by rw [HE.out]; rfl, below_drewN (Below.refl _ _) _⟩
  · obtain ⟨vb, vo, rfl, hvb, hcell⟩ := HCS.out (ints_ne (by have := HMM.out; omega))
    have HX : Hid (∀ k, k < m → w.cell? ⟨vb, vo + k, none⟩ = some (.int .i64 (xs.getD k 0)) ∧ ∃ x : Nat, xs.getD k 0 = x ∧ x < n) := Lib.hid fun k hk => by
      have hkl : k < xs.length := by have := HMM.out; omega
      have h1 := hcell k _ (ints_at' xs k hkl)
      rw [← List.getD_eq_getElem?_getD] at h1
      refine ⟨h1, (xs.getD k 0).toNat, ?_⟩
      have hmem : xs.getD k 0 ∈ xs := by rw [List.getD_eq_getElem?_getD, List.getElem?_eq_getElem hkl]; exact List.getElem_mem hkl
      have := HXX.out _ hmem
      omega
    clear hcell hvb HCS
    obtain ⟨m1, hm1⟩ : ∃ m1, m1 = m - 1 := ⟨_, rfl⟩
    obtain ⟨nI, hnI⟩ : ∃ x : Int, x = (n : Int) - 1 := ⟨_, rfl⟩
    obtain ⟨y0, hy0⟩ : ∃ y, y = xs.getD 0 0 := ⟨_, rfl⟩
    obtain ⟨yl, hyl⟩ : ∃ y, y = xs.getD m1 0 := ⟨_, rfl⟩
    have cf := (HX.out 0 (by omega)).1
    have cl := (HX.out m1 (by omega)).1
    rw [← hy0, Nat.add_zero] at cf
    rw [← hyl] at cl
    have d1 : decide (m < 2) = false := decide_eq_false h2
    have d2 : decide ((m : Int) < 2) = false := decide_eq_false (by omega)
    have w1 : IntKind.i64.wrap ((m : Int) - 1) = (m1 : Int) := by rw [show (m : Int) - 1 = (m1 : Int) by omega]; exact IntWalk.i64_in _ (by omega)
    have w2 : IntKind.i64.wrap ((n : Int) - 1) = nI := by rw [hnI]; exact IntWalk.i64_in _ (by omega)
    have HRE : Hid (r = (decide (y0 = 0) && (decide (yl = nI) && (List.range m1).all (stepOk p xs)))) := Lib.hid (by
      rw [HRR.out, holdsP, decide_eq_true (show 2 ≤ xs.length by have := HMM.out; omega), hy0, hyl, hnI, hm1, HMM.out, HN.out]; rfl)
    have hlm : m1 < m := by omega
    have HM1 := Lib.hid hm1
    clear hm1 hnI hy0 hyl
    by_cases e0 : y0 = 0
    · by_cases el : yl = nI
      · have HE : Hid (r = (List.range m1).all (stepOk p xs)) := Lib.hid (by rw [HRE.out, decide_eq_true e0, decide_eq_true el]; rfl)
        have d3 : (y0 != 0) = false := by simp [e0]
        have d4 : (yl != nI) = false := by simp [el]
        clear e0 el
        go_enter Try.func78, Try.ntmps78
        go_wp2_with fail
        go_quiet (fail)
        have BWW : Hid (Below w.heap.size w (w.drewN nq)) := Lib.hid (below_drewN (Below.refl _ _) _)
        generalize w.drewN nq = wq at BWW ⊢
        clear hk0 cf cl d3 d4 d1 d2 w1 w2
        have h1 : 1 ≤ m := by omega
        by_cases hc1 : vc = 1
        · subst hc1
          go_wp2_with fail
          go_loopw [37] (fun i wr => ∃ k : Nat, k + 1 ≤ m ∧ i = .int .i64 k ∧ Hid (Below w.heap.size w wr) ∧ Hid (∀ j, j < k → stepOk p xs j = true)) (fun i _ => m - (intOf i).toNat)
          case atStart => exact ⟨0, by omega, rfl, BWW, Lib.hid (by intro j hj; omega)⟩
          case round =>
            obtain ⟨k, hk, rfl, hbr, hno⟩ := hrel
            by_cases hlt : k + 1 < m
            · have hlt2 : k < m - 1 := by omega
              obtain ⟨y0, hy0⟩ : ∃ y, y = xs.getD k 0 := ⟨_, rfl⟩
              obtain ⟨y1, hy1⟩ : ∃ y, y = xs.getD (k + 1) 0 := ⟨_, rfl⟩
              have c0 := hbr.out.on (HX.out k (by omega)).1
              have c1 := hbr.out.on (HX.out (k + 1) hlt).1
              obtain ⟨x0, hx0, hx0n⟩ := (HX.out k (by omega)).2
              obtain ⟨x1, hx1, hx1n⟩ := (HX.out (k + 1) hlt).2
              rw [hx0] at c0
              rw [hx1] at c1
              obtain ⟨v, hv⟩ : ∃ v, v = suTo p n 0 x0 x1 := ⟨_, rfl⟩
              have c2 := hbr.out.on (HW.out.2.s x0 x1 (by omega) (by omega))
              rw [← hv] at c2
              have HST : Hid (stepOk p xs k = (decide (x0 < x1) && v)) := Lib.hid (by
                unfold stepOk
                rw [hx0, hx1, hv]
                by_cases e : x0 < x1
                · rw [HN.out, suTo_at (by have := HN.out; omega) (by have := HN.out; omega) (by omega), decide_eq_true e, decide_eq_true (by omega : (x0 : Int) < (x1 : Int))]; simp
                · rw [decide_eq_false e, decide_eq_false (by omega : ¬ (x0 : Int) < (x1 : Int))]; rfl)
              have i0 : (x0 : Int) < 40 := by omega
              have i1 : (x1 : Int) < 40 := by omega
              clear hy0 hy1 hv
              have hk64 : k + 1 < 100000 := by omega
              by_cases hle : x1 ≤ x0
              · have HF : Hid (r = false) := Lib.hid (by
                  rw [HE.out, Bool.eq_false_iff]
                  intro h
                  have h5 := (List.all_eq_true.1 h) k (List.mem_range.2 (by have := HM1.out; omega))
                  rw [HST.out, decide_eq_false (by omega : ¬ x0 < x1)] at h5
                  cases h5)
                have g1 : decide ((x1 : Int) ≤ (x0 : Int)) = true := decide_eq_true (by omega)
                clear HST
                go_wp2_with fail
                go_quiet (fail)
                go_wp2
                go_ret
                exact ⟨by rw [HF.out]; rfl, below_drewN hbr.out _⟩
              · have g1 : decide ((x1 : Int) ≤ (x0 : Int)) = false := decide_eq_false (by omega)
                cases v with
                | false =>
                  have HF : Hid (r = false) := Lib.hid (by
                    rw [HE.out, Bool.eq_false_iff]
                    intro h
                    have h5 := (List.all_eq_true.1 h) k (List.mem_range.2 (by have := HM1.out; omega))
                    rw [HST.out, Bool.and_false] at h5
                    cases h5)
                  clear HST
                  go_wp2_with fail
                  go_quiet (fail)
                  go_wp2
                  go_ret
                  exact ⟨by rw [HF.out]; rfl, below_drewN hbr.out _⟩
                | true =>
                  have HST2 : Hid (stepOk p xs k = true) := Lib.hid (by rw [HST.out, decide_eq_true (by omega : x0 < x1)]; rfl)
                  clear HST
                  go_wp2_with fail
                  go_quiet (fail)
                  go_wp2
                  go_roundw
                  case rel =>
                    refine ⟨k + 1, by omega, by go_num, Lib.hid (below_drewN hbr.out _), Lib.hid (fun j hj => ?_)⟩
                    by_cases e : j = k
                    · rw [e]; exact HST2.out
                    · exact hno.out j (by omega)
                  case measure => simp [intOf]; omega
            · have HF : Hid (r = true) := Lib.hid (by
                rw [HE.out, List.all_eq_true]
                intro j hj
                exact hno.out j (by have := List.mem_range.1 hj; have := HM1.out; omega))
              have hlt2 : ¬ k < m - 1 := by omega
              go_wp2
              go_ret
              exact ⟨by rw [HF.out]; rfl, hbr.out⟩
        · go_wp2_with fail
          go_loopw [37] (fun i wr => ∃ k : Nat, k + 1 ≤ m ∧ i = .int .i64 k ∧ Hid (Below w.heap.size w wr) ∧ Hid (∀ j, j < k → stepOk p xs j = true)) (fun i _ => m - (intOf i).toNat)
          case atStart => exact ⟨0, by omega, rfl, BWW, Lib.hid (by intro j hj; omega)⟩
          case round =>
            obtain ⟨k, hk, rfl, hbr, hno⟩ := hrel
            by_cases hlt : k + 1 < m
            · have hlt2 : k < m - 1 := by omega
              obtain ⟨y0, hy0⟩ : ∃ y, y = xs.getD k 0 := ⟨_, rfl⟩
              obtain ⟨y1, hy1⟩ : ∃ y, y = xs.getD (k + 1) 0 := ⟨_, rfl⟩
              have c0 := hbr.out.on (HX.out k (by omega)).1
              have c1 := hbr.out.on (HX.out (k + 1) hlt).1
              obtain ⟨x0, hx0, hx0n⟩ := (HX.out k (by omega)).2
              obtain ⟨x1, hx1, hx1n⟩ := (HX.out (k + 1) hlt).2
              rw [hx0] at c0
              rw [hx1] at c1
              obtain ⟨v, hv⟩ : ∃ v, v = suTo p n 0 x0 x1 := ⟨_, rfl⟩
              have c2 := hbr.out.on (HW.out.2.s x0 x1 (by omega) (by omega))
              rw [← hv] at c2
              have HST : Hid (stepOk p xs k = (decide (x0 < x1) && v)) := Lib.hid (by
                unfold stepOk
                rw [hx0, hx1, hv]
                by_cases e : x0 < x1
                · rw [HN.out, suTo_at (by have := HN.out; omega) (by have := HN.out; omega) (by omega), decide_eq_true e, decide_eq_true (by omega : (x0 : Int) < (x1 : Int))]; simp
                · rw [decide_eq_false e, decide_eq_false (by omega : ¬ (x0 : Int) < (x1 : Int))]; rfl)
              have i0 : (x0 : Int) < 40 := by omega
              have i1 : (x1 : Int) < 40 := by omega
              clear hy0 hy1 hv
              have hk64 : k + 1 < 100000 := by omega
              by_cases hle : x1 ≤ x0
              · have HF : Hid (r = false) := Lib.hid (by
                  rw [HE.out, Bool.eq_false_iff]
                  intro h
                  have h5 := (List.all_eq_true.1 h) k (List.mem_range.2 (by have := HM1.out; omega))
                  rw [HST.out, decide_eq_false (by omega : ¬ x0 < x1)] at h5
                  cases h5)
                have g1 : decide ((x1 : Int) ≤ (x0 : Int)) = true := decide_eq_true (by omega)
                clear HST
                go_wp2_with fail
                go_quiet (fail)
                go_wp2
                go_ret
                exact ⟨by rw [HF.out]; rfl, below_drewN hbr.out _⟩
              · have g1 : decide ((x1 : Int) ≤ (x0 : Int)) = false := decide_eq_false (by omega)
                cases v with
                | false =>
                  have HF : Hid (r = false) := Lib.hid (by
                    rw [HE.out, Bool.eq_false_iff]
                    intro h
                    have h5 := (List.all_eq_true.1 h) k (List.mem_range.2 (by have := HM1.out; omega))
                    rw [HST.out, Bool.and_false] at h5
                    cases h5)
                  clear HST
                  go_wp2_with fail
                  go_quiet (fail)
                  go_wp2
                  go_ret
                  exact ⟨by rw [HF.out]; rfl, below_drewN hbr.out _⟩
                | true =>
                  have HST2 : Hid (stepOk p xs k = true) := Lib.hid (by rw [HST.out, decide_eq_true (by omega : x0 < x1)]; rfl)
                  clear HST
                  go_wp2_with fail
                  go_quiet (fail)
                  go_wp2
                  go_roundw
                  case rel =>
                    refine ⟨k + 1, by omega, by go_num, Lib.hid (below_drewN hbr.out _), Lib.hid (fun j hj => ?_)⟩
                    by_cases e : j = k
                    · rw [e]; exact HST2.out
                    · exact hno.out j (by omega)
                  case measure => simp [intOf]; omega
            · have HF : Hid (r = true) := Lib.hid (by
                rw [HE.out, List.all_eq_true]
                intro j hj
                exact hno.out j (by have := List.mem_range.1 hj; have := HM1.out; omega))
              have hlt2 : ¬ k < m - 1 := by omega
              go_wp2
              go_ret
              exact ⟨by rw [HF.out]; rfl, hbr.out⟩
      · have HE : Hid (r = false) := Lib.hid (by rw [HRE.out, decide_eq_false el, Bool.false_and, Bool.and_false])
        have d3 : (y0 != 0) = false := by simp [e0]
        have d4 : (yl != nI) = true := by simp [el]
        clear e0 el
        go_enter Try.func78, Try.ntmps78
        go_wp2_with fail
        go_quiet (fail)
        go_wp2
        go_ret
        exact ⟨by rw [HE.out]; rfl, below_drewN (Below.refl _ _) _⟩
    · have HE : Hid (r = false) := Lib.hid (by rw [HRE.out, decide_eq_false e0]; rfl)
      have d3 : (y0 != 0) = true := by simp [e0]
      clear e0
      go_enter Try.func78, Try.ntmps78
      go_wp2_with fail
      go_quiet (fail)
      go_wp2
      go_ret
      exact ⟨by rw [HE.out]; rfl, below_drewN (Below.refl _ _) _⟩
end Go.Proofs.Ytohjinbgbfggcaa
/-
  A profile at work, and whether pillars hold: the contract of held.
-/
namespace Go.Proofs.Ytohjinbgbfggcaa
open Go.RowKit Go.Shelf
open Lim

set_option maxHeartbeats 400000 in
theorem held1_any {n ac q : Nat} {a : Option Addr} {x : Int} {w : World} (hn : n ≤ 40) (hc : w.cell? ⟨q, 0, none⟩ = some (.slice a n ac)) :
    Calls Try.prog 77 #[.int .i64 x, .pointer (some ⟨q, 0, none⟩)] w fun e w' => e = .returned (.bool (inR x 0 ((n : Int) - 1))) ∧ Below w.heap.size w w' := by
  obtain ⟨m, hm⟩ : ∃ m : Int, m = (n : Int) - 1 := ⟨_, rfl⟩
  have hw : IntKind.i64.wrap ((n : Int) - 1) = m := by rw [hm]; exact IntWalk.i64_in _ (by omega)
  rw [← hm]
  obtain ⟨z, hz⟩ : ∃ z, inR x 0 m = z := ⟨_, rfl⟩
  rw [hz]
  have HZ := Lib.hid hz
  clear hz hm
  go_enter Try.func77, Try.ntmps77
  go_wp2_with fail
  refine (in_any _ _ _ _).mono ?_
  rintro e w' ⟨rfl, rfl⟩
  rw [HZ.out]
  go_wp2
  go_ret
  exact ⟨rfl, Below.refl _ _⟩
def inAll (n : Nat) (xs : List Int) : Bool := xs.all fun x => inR x 0 ((n : Int) - 1)
/-- what held answers -/
def HeldAns (w : World) (p : Pf) (av gv : Value) (xs : List Int) (e : Ending) (w' : World) : Prop :=
  Below w.heap.size w w' ∧ ((p.err ≠ 0 ∧ e = .returned (.tuple #[.pointer none, .bool false, .int .i64 p.err])) ∨
    (p.err = 0 ∧ inAll p.n xs = false ∧ e = .returned (.tuple #[.pointer none, .bool false, .int .i64 2])) ∨
    (p.err = 0 ∧ inAll p.n xs = true ∧ ∃ b, e = .returned (.tuple #[.pointer (some ⟨b, 0, none⟩), .bool (holdsP p xs), .int .i64 0]) ∧ w.heap.size ≤ b ∧ PfC w' b p av gv ∧ WkP w' b (suTo p p.n 0)))
set_option maxRecDepth 20000 in
set_option maxHeartbeats 2000000 in
theorem held_any {B : Nat} {p : Pf} {av gv v : Value} {xs : List Int} {w : World} (hB : B ≤ w.heap.size) (ha : RS B w av p.ats.length (ints p.ats)) (hg : RS B w gv p.gr.length (spans p.gr)) (hv : RS B w v xs.length (ints xs)) (hm : xs.length ≤ 90000) :
    Calls Try.prog 57 #[.agg #[av, gv, .int .i64 p.tall, .int .i64 p.lo, .int .i64 p.hi], v] w (HeldAns w p av gv xs) := by
  have HXS := Lib.hid (And.intro hv hm)
  have HR := Lib.hid (And.intro hB (And.intro ha hg))
  obtain ⟨tl, htl⟩ : ∃ x, x = p.tall := ⟨_, rfl⟩
  obtain ⟨lo, hlo⟩ : ∃ x, x = p.lo := ⟨_, rfl⟩
  obtain ⟨hi, hhi⟩ : ∃ x, x = p.hi := ⟨_, rfl⟩
  have HOP : Hid (∀ W, Below w.heap.size w W → Calls Try.prog 18 #[.agg #[av, gv, .int .i64 tl, .int .i64 lo, .int .i64 hi]] W (OpAns W p av gv)) := Lib.hid fun W hW => by
    rw [htl, hlo, hhi]
    exact opened_any (Nat.le_trans hB hW.size) (ha.below (hW.mono hB)) (hg.below (hW.mono hB))
  rw [← htl, ← hlo, ← hhi]
  have HT := Lib.hid (And.intro htl (And.intro hlo hhi))
  have HM : Hid (Below w.heap.size w (w.alloc (.cells #[av, gv, .int .i64 tl, .int .i64 lo, .int .i64 hi] 30)) ∧ (w.alloc (.cells #[av, gv, .int .i64 tl, .int .i64 lo, .int .i64 hi] 30)).heap[w.heap.size]? = some (.cells #[av, gv, .int .i64 tl, .int .i64 lo, .int .i64 hi] 30 (0, 0))) := Lib.hid ⟨(Below.refl _ w).alloc (Nat.le_refl _) _, heap_alloc_newP w _⟩
  clear hB htl hlo hhi ha hg
  obtain ⟨va, vc, rfl, -⟩ := hv
  clear hm
  go_enter Try.func57, Try.ntmps57
  go_upto_region 1 with (fail)
  obtain ⟨q, hq⟩ : ∃ q, q = w.heap.size := ⟨_, rfl⟩
  have HQ := Lib.hid hq.symm
  rw [← hq] at HM
  simp only [← hq]
  clear hq
  generalize w.alloc (.cells #[av, gv, .int .i64 tl, .int .i64 lo, .int .i64 hi] 30) = w1 at HM ⊢
  obtain ⟨⟨k0, k1, k2, k3, k4⟩, -⟩ := five_cells HM.out.2
  have HW1 : Hid (Below w.heap.size w w1) := Lib.hid (by rw [HQ.out]; exact HM.out.1)
  go_wp2_with fail
  refine (HOP.out _ HW1.out).mono ?_
  rintro e w2 ⟨hb2, hans⟩
  have hk0 := hb2.on k0
  have hk1 := hb2.on k1
  have hk2 := hb2.on k2
  have hk3 := hb2.on k3
  have hk4 := hb2.on k4
  clear k0 k1 k2 k3 k4
  have HB2 : Hid (Below w.heap.size w w2) := Lib.hid (HW1.out.trans (hb2.mono HW1.out.size))
  clear hb2
  rcases hans with ⟨hne, rfl⟩ | ⟨he, b, rfl, hge, hc, hk⟩
  · obtain ⟨er, her⟩ : ∃ x, x = p.err := ⟨_, rfl⟩
    have HER := Lib.hid (And.intro her hne)
    rw [← her] at hne ⊢
    clear her
    have d1 : (er != 0) = true := by simp [hne]
    clear hne
    go_wp2
    go_ret3
    exact ⟨HB2.out, .inl ⟨HER.out.2, by rw [← HER.out.1]; rfl⟩⟩
  · have HP : Hid p.Ok := Lib.hid (err_ok he)
    have HE0 := Lib.hid (And.intro he hge)
    obtain ⟨ab, ao, ac, gb, go, gc, rfl, rfl, hl⟩ := pf_lists HP.out HR.out.2.1 HR.out.2.2
    have HW := Lib.hid (And.intro hc hk)
    obtain ⟨n, hn⟩ : ∃ x, x = p.n := ⟨_, rfl⟩
    rw [← hn] at HW hk0 ⊢
    have HN : Hid (n = p.n) := Lib.hid hn
    have n40 : n ≤ 40 := by rw [hn]; exact HP.out.n40
    clear hn hc hk hl he hge
    have hk0' := hk0
    have h1 := every_int (B := B) (lb := #[.pointer (some ⟨q, 0, none⟩)]) (p := fun k => inR (xs.getD k 0) 0 ((n : Int) - 1)) (w := w2) (enters_of Try.func77 (by kernel_rfl) rfl) (by have := HXS.out.2; omega) (HXS.out.1.below (HB2.out.mono HR.out.1)) (Nat.le_trans HR.out.1 HB2.out.size) (fun k hk W hW => by simpa using held1_any (x := xs.getD k 0) n40 (hW.on hk0'))
    have e1 : ((List.range xs.length).all fun k => inR (xs.getD k 0) 0 ((n : Int) - 1)) = inAll n xs := all_at xs (fun x => inR x 0 ((n : Int) - 1))
    rw [e1] at h1
    have H1 := Lib.hid h1
    clear h1 e1 hk0'
    cases hin : inAll n xs with
    | false =>
      have HI := Lib.hid hin
      rw [hin] at H1
      clear hin
      go_wp2_with fail
      refine H1.out.mono ?_
      rintro e w3 ⟨rfl, hb3⟩
      have HB3 : Hid (Below w.heap.size w w3) := Lib.hid (HB2.out.trans (hb3.mono HB2.out.size))
      clear hb3 hk0 hk1 hk2 hk3 hk4
      go_wp2
      go_ret3
      exact ⟨HB3.out, .inr (.inl ⟨HE0.out.1, by rw [← HN.out]; exact HI.out, rfl⟩)⟩
    | true =>
      have HI := Lib.hid hin
      rw [hin] at H1
      clear hin
      go_wp2_with fail
      refine H1.out.mono ?_
      rintro e w3 ⟨rfl, hb3⟩
      have HB3 : Hid (Below w.heap.size w w3 ∧ Below w2.heap.size w2 w3) := Lib.hid ⟨HB2.out.trans (hb3.mono HB2.out.size), hb3⟩
      clear hb3 hk0 hk1 hk2 hk3 hk4
      have hbl := World.block_lt_of_cell? _ _ HW.out.1.c0
      have HH := Lib.hid (holds_any (v := .slice va xs.length vc) (w := w3) HN.out n40 HXS.out.2 (HW.out.1.grow HB3.out.2) (by have h := HW.out.2.grow hbl HB3.out.2; rw [HN.out]; rw [HN.out] at h; exact h)
        (fun x hx => by have h := (List.all_eq_true.1 HI.out) x hx; have := inR_iff.1 h; omega) (HXS.out.1.below (HB3.out.1.mono HR.out.1)) (Nat.le_trans HR.out.1 HB3.out.1.size))
      clear hbl
      go_wp2_with fail
      refine HH.out.mono ?_
      rintro e w4 ⟨rfl, hb4⟩
      have HB4 : Hid (Below w.heap.size w w4 ∧ Below w2.heap.size w2 w4) := Lib.hid ⟨HB3.out.1.trans (hb4.mono HB3.out.1.size), HB3.out.2.trans (hb4.mono HB3.out.2.size)⟩
      clear hb4
      go_wp2
      go_ret3
      have hbl := World.block_lt_of_cell? _ _ HW.out.1.c0
      exact ⟨HB4.out.1, .inr (.inr ⟨HE0.out.1, by rw [← HN.out]; exact HI.out, b, rfl, Nat.le_trans (HW1.out.trans (Below.refl _ _)).size HE0.out.2, by have h := HW.out.1.grow HB4.out.2; rw [HN.out] at h; exact h, by have h := HW.out.2.grow hbl HB4.out.2; rw [HN.out] at h; exact h⟩)⟩
end Go.Proofs.Ytohjinbgbfggcaa
/-
  Whether pillars hold: the contract of Holds.
-/
namespace Go.Proofs.Ytohjinbgbfggcaa
open Go.RowKit Go.Shelf
open Lim

end Go.Proofs.Ytohjinbgbfggcaa
