/-
  Parts of the proof, in the order in which they build: EvD.
-/
import Derived.Test.YtiacgaplhndlnaaN6
import Derived.Test.YtiacgaplhndlnaaN10
import Derived.Test.YtiacgaplhndlnaaN13
set_option linter.unusedVariables false
set_option linter.unusedSimpArgs false
namespace Go.Proofs.Ytiacgaplhndlnaa
open Go.RowKit Go.Shelf
open Lim

/-- whether there are as many plots as there may be, in whole rows -/
def countB (wd : Int) (n : Nat) : Bool := inB n 1 100 && decide (1 ≤ wd) && decide (n % wd.toNat = 0)
theorem countB_ok {wd : Int} {os : List Int} (h : countB wd os.length = true) : Mp.Ok ⟨wd.toNat, os⟩ ∧ wd = (wd.toNat : Int) := by
  simp only [countB, Bool.and_eq_true, decide_eq_true_eq, inB_iff] at h
  exact ⟨⟨by show 0 < wd.toNat; omega, by show 0 < os.length; omega, by show os.length ≤ 100; omega, h.2⟩, by omega⟩
def errE (wd : Int) (os : List Int) : Int := if countB wd os.length = true then (if ((List.range os.length).all fun k => inB (os.getD k 0) 0 9) = true then 0 else 4) else 3
set_option maxHeartbeats 1000000 in
theorem counted_any {wd : Int} {n c : Nat} {a : Option Addr} {w : World} :
    Calls Try.prog 127 #[.agg #[.int .i64 wd, .slice a n c]] w fun e w' => e = .returned (.bool (countB wd n)) ∧ Below w.heap.size w w' := by
  have hb : Below w.heap.size w (w.alloc (.cells #[.int .i64 wd, .slice a n c] 25)) := (Below.refl _ w).alloc (Nat.le_refl _) _
  have HB := Lib.hid hb
  clear hb
  cases h1 : inB n 1 100 with
  | false =>
    have HC : Hid (countB wd n = false) := Lib.hid (by unfold countB; rw [h1]; rfl)
    go_enter Try.func127, Try.ntmps127
    go_wp2_with (go_at_call 130; refine (in_any _ _ _ _).mono ?_; rintro e w' ⟨rfl, rfl⟩; rw [h1])
    go_ret
    exact ⟨by rw [HC.out]; rfl, HB.out⟩
  | true =>
    have hn := inB_iff.1 h1
    by_cases h2 : 1 ≤ wd
    · have hd : decide (1 ≤ wd) = true := by simpa using h2
      obtain ⟨m, rfl⟩ : ∃ m : Nat, wd = m := ⟨wd.toNat, by omega⟩
      have hm0 : ¬ m = 0 := by omega
      obtain ⟨r, hr⟩ : ∃ r, r = n % m := ⟨_, rfl⟩
      have e5 : (n : Int).tmod (m : Int) = (r : Int) := by rw [hr]; exact (Int.ofNat_tmod n m).symm
      have HC : Hid (countB m n = decide (r = 0)) := Lib.hid (by unfold countB; rw [h1, Int.toNat_natCast, ← hr]; simp; omega)
      clear hr
      by_cases h3 : r = 0
      · have e6 : ((r : Int) == 0) = true := by simp [h3]
        have HD : Hid (decide (r = 0) = true) := Lib.hid (by simp [h3])
        clear h3
        go_enter Try.func127, Try.ntmps127
        go_wp2_with (go_at_call 130; refine (in_any _ _ _ _).mono ?_; rintro e w' ⟨rfl, rfl⟩; rw [h1])
        go_ret
        exact ⟨by rw [HC.out, HD.out]; rfl, HB.out⟩
      · have e6 : ((r : Int) == 0) = false := by rw [beq_eq_false_iff_ne]; omega
        have HD : Hid (decide (r = 0) = false) := Lib.hid (by simp [h3])
        clear h3
        go_enter Try.func127, Try.ntmps127
        go_wp2_with (go_at_call 130; refine (in_any _ _ _ _).mono ?_; rintro e w' ⟨rfl, rfl⟩; rw [h1])
        go_ret
        exact ⟨by rw [HC.out, HD.out]; rfl, HB.out⟩
    · have hd : decide (1 ≤ wd) = false := by simpa using h2
      have HC : Hid (countB wd n = false) := Lib.hid (by unfold countB; rw [hd]; simp)
      go_enter Try.func127, Try.ntmps127
      go_wp2_with (go_at_call 130; refine (in_any _ _ _ _).mono ?_; rintro e w' ⟨rfl, rfl⟩; rw [h1])
      go_ret
      exact ⟨by rw [HC.out]; rfl, HB.out⟩

set_option maxHeartbeats 4000000 in
theorem rim_any {wd n p c : Nat} {a : Option Addr} {w : World} (hw0 : 0 < wd) (hwn : wd ≤ n) (hn : n ≤ 100) (hp : p < n) :
    Calls Try.prog 158 #[.agg #[.int .i64 wd, .slice a n c], .int .i64 p] w fun e w' => e = .returned (.bool (decide (p < wd) || decide (n ≤ p + wd) || decide (p % wd = 0) || decide (p % wd + 1 = wd))) ∧ Below w.heap.size w w' := by
  have hb : Below w.heap.size w (w.alloc (.cells #[.int .i64 wd, .slice a n c] 25)) := (Below.refl _ w).alloc (Nat.le_refl _) _
  have HB := Lib.hid hb
  clear hb
  have f0 : (w.alloc (.cells #[.int .i64 wd, .slice a n c] 25)).cell? ⟨w.heap.size, 0, none⟩ = some (.int .i64 wd) := by simp [go_sem]
  have f1 : (w.alloc (.cells #[.int .i64 wd, .slice a n c] 25)).cell? ⟨w.heap.size, 1, none⟩ = some (.slice a n c) := by simp [go_sem]
  have hm0 : ¬ wd = 0 := by omega
  have hx : IntKind.i64.wrap ((n : Int) - wd) = (n : Int) - wd := IntWalk.i64_in _ (by omega)
  have hy : IntKind.i64.wrap ((wd : Int) - 1) = (wd : Int) - 1 := IntWalk.i64_in _ (by omega)
  obtain ⟨r, hr⟩ : ∃ r, r = p % wd := ⟨_, rfl⟩
  have e5 : (p : Int).tmod (wd : Int) = (r : Int) := by rw [hr]; exact (Int.ofNat_tmod p wd).symm
  rw [← hr]
  clear hr
  obtain ⟨z, hz⟩ : ∃ z, z = (decide (p < wd) || decide (n ≤ p + wd) || decide (r = 0) || decide (r + 1 = wd)) := ⟨_, rfl⟩
  rw [← hz]
  by_cases h1 : p < wd
  · have d1 : decide (p < wd) = true := by simp; omega
    have d1' : decide ((p : Int) < wd) = true := by simp; omega
    have HZ : Hid (z = true) := Lib.hid (by rw [hz]; simp [h1])
    clear hz h1
    go_enter Try.func158, Try.ntmps158
    go_wp2_with fail
    generalize hW : w.alloc (.cells #[.int .i64 wd, .slice a n c] 25) = W0 at HB f0 f1 ⊢
    go_quiet (fail)
    go_wp2
    go_ret
    exact ⟨by rw [HZ.out]; rfl, below_drewN HB.out _⟩
  · have d1 : decide (p < wd) = false := by simp; omega
    have d1' : decide ((p : Int) < wd) = false := by simp; omega
    by_cases h2 : n ≤ p + wd
    · have d2 : decide ((n : Int) - wd ≤ p) = true := by simp; omega
      have HZ : Hid (z = true) := Lib.hid (by rw [hz]; simp [h2])
      clear hz h1 h2
      go_enter Try.func158, Try.ntmps158
      go_wp2_with fail
      generalize hW : w.alloc (.cells #[.int .i64 wd, .slice a n c] 25) = W0 at HB f0 f1 ⊢
      go_quiet (fail)
      go_wp2
      go_ret
      exact ⟨by rw [HZ.out]; rfl, below_drewN HB.out _⟩
    · have d2 : decide ((n : Int) - wd ≤ p) = false := by simp; omega
      by_cases h3 : r = 0
      · have d3 : ((r : Int) == 0) = true := by simp [h3]
        have HZ : Hid (z = true) := Lib.hid (by rw [hz]; simp [h3])
        clear hz h1 h2 h3
        go_enter Try.func158, Try.ntmps158
        go_wp2_with fail
        generalize hW : w.alloc (.cells #[.int .i64 wd, .slice a n c] 25) = W0 at HB f0 f1 ⊢
        go_quiet (fail)
        go_wp2
        go_ret
        exact ⟨by rw [HZ.out]; rfl, below_drewN HB.out _⟩
      · have d3 : ((r : Int) == 0) = false := by rw [beq_eq_false_iff_ne]; omega
        by_cases h4 : r + 1 = wd
        · have d4 : ((r : Int) == (wd : Int) - 1) = true := by rw [beq_iff_eq]; omega
          have HZ : Hid (z = true) := Lib.hid (by rw [hz]; simp [h4])
          clear hz h1 h2 h3 h4
          go_enter Try.func158, Try.ntmps158
          go_wp2_with fail
          generalize hW : w.alloc (.cells #[.int .i64 wd, .slice a n c] 25) = W0 at HB f0 f1 ⊢
          go_quiet (fail)
          go_wp2
          go_ret
          exact ⟨by rw [HZ.out]; rfl, below_drewN HB.out _⟩
        · have d4 : ((r : Int) == (wd : Int) - 1) = false := by rw [beq_eq_false_iff_ne]; omega
          have HZ : Hid (z = false) := Lib.hid (by rw [hz]; simp [h1, h2, h3, h4])
          clear hz h1 h2 h3 h4
          go_enter Try.func158, Try.ntmps158
          go_wp2_with fail
          generalize hW : w.alloc (.cells #[.int .i64 wd, .slice a n c] 25) = W0 at HB f0 f1 ⊢
          go_quiet (fail)
          go_wp2
          go_ret
          exact ⟨by rw [HZ.out]; rfl, below_drewN HB.out _⟩
theorem rim_map {m : Mp} (hm : m.Ok) {p c : Nat} {a : Option Addr} {w : World} (hp : p < m.n) :
    Calls Try.prog 158 #[.agg #[.int .i64 m.wd, .slice a m.n c], .int .i64 p] w fun e w' => e = .returned (.bool (rimB m p)) ∧ Below w.heap.size w w' := rim_any hm.w0 hm.wn hm.n1 hp
set_option maxHeartbeats 400000 in
theorem check1_any (n : Int) (w : World) : Calls Try.prog 129 #[.int .i64 n] w fun e w' => e = .returned (.bool (inB n 0 9)) ∧ w = w' := by
  go_enter Try.func129, Try.ntmps129
  go_wp2_with (go_at_call 130; refine (in_any _ _ _ _).mono ?_; rintro e w' ⟨rfl, rfl⟩)
  go_ret
  exact ⟨rfl, rfl⟩
theorem says_check1 (os : List Int) (w : World) : Says 129 #[] os.length (fun k => .int .i64 (os.getD k 0)) (fun k => inB (os.getD k 0) 0 9) w := by
  intro k hk W hb
  simp only [Array.append_empty]
  exact (check1_any _ W).mono (fun e w' h => ⟨h.1, by rw [← h.2]; exact Below.refl _ _⟩)
set_option maxRecDepth 20000 in
set_option maxHeartbeats 400000 in
theorem Check_any {B : Nat} {wd : Int} {ov : Value} {os : List Int} {w : World} (hl : os.length ≤ 100000) (hB : B ≤ w.heap.size) (hv : RS B w ov os.length (ints os)) :
    Calls Try.prog 79 #[.agg #[.int .i64 wd, ov]] w fun e w' => e = .returned (.int .i64 (errE wd os)) ∧ Below w.heap.size w w' := by
  have hb : Below w.heap.size w (w.alloc (.cells #[.int .i64 wd, ov] 25)) := (Below.refl _ w).alloc (Nat.le_refl _) _
  have HB := Lib.hid hb
  have HV := Lib.hid hv
  have HL := Lib.hid hl
  obtain ⟨a, c, rfl, -⟩ := hv
  clear hb hl
  have f0 : (w.alloc (.cells #[.int .i64 wd, .slice a os.length c] 25)).cell? ⟨w.heap.size, 0, none⟩ = some (.int .i64 wd) := by simp [go_sem]
  have f1 : (w.alloc (.cells #[.int .i64 wd, .slice a os.length c] 25)).cell? ⟨w.heap.size, 1, none⟩ = some (.slice a os.length c) := by simp [go_sem]
  have HC := Lib.hid (counted_any (wd := wd) (n := os.length) (c := c) (a := a) (w := w.alloc (.cells #[.int .i64 wd, .slice a os.length c] 25)))
  go_enter Try.func79, Try.ntmps79
  go_wp2_with fail
  refine HC.out.mono ?_
  rintro e w1 ⟨rfl, hb1⟩
  have r1 := hb1.on f1
  have HB1 := Lib.hid (HB.out.trans (hb1.mono HB.out.size))
  clear hb1 f0 f1 HC
  cases hc : countB wd os.length with
  | false =>
    have HE : Hid (errE wd os = 3) := Lib.hid (by rw [errE, hc]; rfl)
    clear hc
    go_wp2_with fail
    go_ret
    exact ⟨by rw [HE.out]; rfl, HB1.out⟩
  | true =>
    have HCC := Lib.hid hc
    clear hc
    have HE := Lib.hid (every_any (B := B) (p := fun k => inB (os.getD k 0) 0 9) (enters_of Try.func129 (by kernel_rfl) rfl) HL.out (HV.out.below (HB1.out.mono hB)) (by have := HB1.out.size; omega) (says_check1 os _))
    go_wp2_with fail
    refine HE.out.mono ?_
    rintro e w2 ⟨rfl, hb2⟩
    have HB2 := Lib.hid (HB1.out.trans (hb2.mono HB1.out.size))
    clear hb2 HE
    obtain ⟨z, hz⟩ : ∃ z, z = (List.range os.length).all fun k => inB (os.getD k 0) 0 9 := ⟨_, rfl⟩
    rw [← hz]
    have HE : Hid (errE wd os = if z = true then 0 else 4) := Lib.hid (by rw [errE, HCC.out, hz]; rfl)
    clear hz
    cases z <;> (go_wp2_with fail; go_ret; exact ⟨by rw [HE.out]; rfl, HB2.out⟩)
end Go.Proofs.Ytiacgaplhndlnaa
