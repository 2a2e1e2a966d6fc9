/-
  Parts of the proof, in the order in which they build: EwS.
-/
import Derived.Test.YtkjcnkkmhkcddaaA22
import Derived.Test.YtkjcnkkmhkcddaaA35
import Derived.Test.YtkjcnkkmhkcddaaA27
import Derived.Test.YtkjcnkkmhkcddaaC1
set_option linter.unusedVariables false
set_option linter.unusedSimpArgs false
namespace Go.Proofs.Ytkjcnkkmhkcddaa
open Go.RowKit Go.Shelf
open Lim

attribute [local go_sem] Oper.semAt_some

set_option maxHeartbeats 400000 in
theorem outside_any (n a b : Int) (w : World) : Calls Try.prog 52 #[.int .i64 n, .int .i64 a, .int .i64 b] w fun e w' => e = .returned (.bool (!inB n a b)) ∧ w = w' := by
  by_cases h1 : n < a
  · have hd : decide (n < a) = true := by simpa using h1
    rw [inB_false (.inl h1)]
    go_enter Try.func52, Try.ntmps52
    go_wp2
    go_ret
    exact ⟨rfl, rfl⟩
  · have hd : decide (n < a) = false := by simpa using h1
    by_cases h2 : b < n
    · have hd2 : decide (b < n) = true := by simpa using h2
      rw [inB_false (.inr h2)]
      go_enter Try.func52, Try.ntmps52
      go_wp2
      go_ret
      exact ⟨rfl, rfl⟩
    · have hd2 : decide (b < n) = false := by simpa using h2
      rw [inB_true (by omega) (by omega)]
      go_enter Try.func52, Try.ntmps52
      go_wp2
      go_ret
      exact ⟨rfl, rfl⟩
set_option maxHeartbeats 1000000 in
theorem odd_any {wd : Int} {n c : Nat} {a : Option Addr} {w : World} :
    Calls Try.prog 63 #[.agg #[.int .i64 wd, .slice a n c]] w fun e w' => e = .returned (.bool (!countB wd n)) ∧ Below w.heap.size w w' := by
  have HB := Lib.hid ((Below.refl w.heap.size w).alloc (Nat.le_refl _) (.cells #[.int .i64 wd, .slice a n c] 28))
  cases h1 : inB n 1 100 with
  | false =>
    have HC : Hid (countB wd n = false) := Lib.hid (by unfold countB; rw [h1]; rfl)
    go_enter Try.func63, Try.ntmps63
    go_wp2_with (go_at_call 52; refine (outside_any _ _ _ _).mono ?_; rintro e w' ⟨rfl, rfl⟩; rw [h1])
    go_ret
    exact ⟨by rw [HC.out]; rfl, HB.out⟩
  | true =>
    have hn := inB_iff.1 h1
    by_cases h2 : 1 ≤ wd
    · have hd : decide (wd < 1) = false := by simp; omega
      obtain ⟨m, rfl⟩ : ∃ m : Nat, wd = m := ⟨wd.toNat, by omega⟩
      have hm0 : ¬ m = 0 := by omega
      obtain ⟨r, hr⟩ : ∃ r, r = n % m := ⟨_, rfl⟩
      have e5 : (n : Int).tmod (m : Int) = (r : Int) := by rw [hr]; exact (Int.ofNat_tmod n m).symm
      have HC : Hid (countB m n = decide (r = 0)) := Lib.hid (by unfold countB; rw [h1, Int.toNat_natCast, ← hr]; simp; omega)
      clear hr
      by_cases h3 : r = 0
      · have e6 : decide (0 < r) = false := by simp [h3]
        have HD : Hid (decide (r = 0) = true) := Lib.hid (by simp [h3])
        clear h3
        go_enter Try.func63, Try.ntmps63
        go_wp2_with (go_at_call 52; refine (outside_any _ _ _ _).mono ?_; rintro e w' ⟨rfl, rfl⟩; rw [h1])
        go_ret
        exact ⟨by rw [HC.out, HD.out]; rfl, HB.out⟩
      · have e6 : decide (0 < r) = true := by simp; omega
        have HD : Hid (decide (r = 0) = false) := Lib.hid (by simp [h3])
        clear h3
        go_enter Try.func63, Try.ntmps63
        go_wp2_with (go_at_call 52; refine (outside_any _ _ _ _).mono ?_; rintro e w' ⟨rfl, rfl⟩; rw [h1])
        go_ret
        exact ⟨by rw [HC.out, HD.out]; rfl, HB.out⟩
    · have hd : decide (wd < 1) = true := by simp; omega
      have HC : Hid (countB wd n = false) := Lib.hid (by unfold countB; rw [show decide (1 ≤ wd) = false by simp; omega]; simp)
      go_enter Try.func63, Try.ntmps63
      go_wp2_with (go_at_call 52; refine (outside_any _ _ _ _).mono ?_; rintro e w' ⟨rfl, rfl⟩; rw [h1])
      go_ret
      exact ⟨by rw [HC.out]; rfl, HB.out⟩
set_option maxHeartbeats 1000000 in
theorem rCheck_any {B : Nat} {wd : Int} {ov : Value} {os : List Int} {w : World} (hl : os.length ≤ 100000) (hB : B ≤ w.heap.size) (hv : RS B w ov os.length (ints os)) :
    Calls Try.prog 27 #[.agg #[.int .i64 wd, ov]] w fun e w' => e = .returned (.int .i64 (errE wd os)) ∧ Below w.heap.size w w' := by
  have hb := (Below.refl w.heap.size w).alloc (Nat.le_refl _) (.cells #[.int .i64 wd, ov] 28)
  have HV := Lib.hid (hv.below (hb.mono hB))
  obtain ⟨a, c, rfl, -⟩ := hv
  have f0 : (w.alloc (.cells #[.int .i64 wd, .slice a os.length c] 28)).cell? ⟨w.heap.size, 0, none⟩ = some (.int .i64 wd) := by simp [go_sem]
  have f1 : (w.alloc (.cells #[.int .i64 wd, .slice a os.length c] 28)).cell? ⟨w.heap.size, 1, none⟩ = some (.slice a os.length c) := by simp [go_sem]
  have HB := Lib.hid (And.intro hB hb)
  clear hb hB
  go_enter Try.func27, Try.ntmps27
  go_wp2_with fail
  generalize w.alloc (.cells #[.int .i64 wd, .slice a os.length c] 28) = w1 at HB HV f0 f1 ⊢
  refine odd_any.mono ?_
  rintro e w2 ⟨rfl, hb⟩
  replace f0 := hb.on f0
  replace f1 := hb.on f1
  replace HV := Lib.hid (HV.out.below (hb.mono (Nat.le_trans HB.out.1 HB.out.2.size)))
  replace HB := Lib.hid (And.intro HB.out.1 (HB.out.2.trans (hb.mono HB.out.2.size)))
  clear hb w1
  cases hc : countB wd os.length with
  | false =>
    have HE : Hid (errE wd os = 3) := Lib.hid (by simp [errE, hc])
    clear hc
    go_wp2_with fail
    go_ret
    exact ⟨by rw [HE.out]; rfl, HB.out.2⟩
  | true =>
    have HC := Lib.hid hc
    clear hc
    go_wp2_with fail
    go_loopw [3] (fun v wr => ∃ k : Nat, k ≤ os.length ∧ v = .int .i64 k ∧ Hid (Below w2.heap.size w2 wr ∧ ∀ j, j < k → inB (os.getD j 0) 0 9 = true)) (fun v _ => os.length - (intOf v).toNat)
    case atStart => exact ⟨0, Nat.zero_le _, rfl, Lib.hid ⟨Below.refl _ _, fun j hj => by omega⟩⟩
    case round =>
      obtain ⟨k, hk, rfl, hP⟩ := hrel
      have g0 := hP.out.1.on f0
      have g1 := hP.out.1.on f1
      by_cases hlt : k < os.length
      · obtain ⟨b, off, rfl, ck⟩ := cell_of_RS (p := k) HV.out hlt
        have ck' := hP.out.1.on ck
        obtain ⟨y, hy⟩ : ∃ y, y = os.getD k 0 := ⟨_, rfl⟩
        rw [← hy] at ck'
        have HY := Lib.hid hy
        have hk64 : (k : Int) ≤ 100000 := by omega
        clear ck hy
        go_wp2_with fail
        refine (outside_any _ _ _ _).mono ?_
        rintro e w3 ⟨rfl, rfl⟩
        cases hz : inB y 0 9 with
        | false =>
          have HE : Hid (errE wd os = 4) := Lib.hid (by
            rw [errE, if_pos HC.out, if_neg]
            rw [List.all_eq_true]
            intro h
            have := h k (List.mem_range.2 hlt)
            rw [← HY.out, hz] at this; cases this)
          clear hz
          go_wp2_with fail
          go_ret
          exact ⟨by rw [HE.out]; rfl, HB.out.2.trans (hP.out.1.mono HB.out.2.size)⟩
        | true =>
          have HZ := Lib.hid hz
          clear hz
          go_wp2_with fail
          go_roundw
          case rel =>
            refine ⟨k + 1, by omega, by go_num, Lib.hid ⟨hP.out.1, fun j hj => ?_⟩⟩
            by_cases e : j = k
            · rw [e, ← HY.out]; exact HZ.out
            · exact hP.out.2 j (by omega)
          case measure => simp [intOf]; omega
      · obtain rfl : k = os.length := by omega
        have HE : Hid (errE wd os = 0) := Lib.hid (by
          rw [errE, if_pos HC.out, if_pos]
          rw [List.all_eq_true]
          exact fun j hj => hP.out.2 j (List.mem_range.1 hj))
        go_wp2_with fail
        go_ret
        exact ⟨by rw [HE.out]; rfl, HB.out.2.trans (hP.out.1.mono HB.out.2.size)⟩
theorem sq_le {x : Int} (h1 : -100 ≤ x) (h2 : x ≤ 100) : 0 ≤ x * x ∧ x * x ≤ 10000 := by
  have e : ((x.natAbs * x.natAbs : Nat) : Int) = x * x := Int.natAbs_mul_self
  have h3 : x.natAbs ≤ 100 := by omega
  have h4 := Nat.mul_le_mul h3 h3
  omega
theorem sq_one {x y : Int} : x * x + y * y = 1 ↔ (x = 0 ∧ (y = 1 ∨ y = -1)) ∨ (y = 0 ∧ (x = 1 ∨ x = -1)) := by
  have e1 : ((x.natAbs * x.natAbs : Nat) : Int) = x * x := Int.natAbs_mul_self
  have e2 : ((y.natAbs * y.natAbs : Nat) : Int) = y * y := Int.natAbs_mul_self
  rw [← e1, ← e2]
  obtain ⟨a, ha⟩ : ∃ a, a = x.natAbs := ⟨_, rfl⟩
  obtain ⟨b, hb⟩ : ∃ b, b = y.natAbs := ⟨_, rfl⟩
  rw [← ha, ← hb]
  constructor
  · intro h
    have ha2 : a < 2 := by
      apply Nat.lt_of_not_le; intro h2
      have := Nat.mul_le_mul h2 h2; omega
    have hb2 : b < 2 := by
      apply Nat.lt_of_not_le; intro h2
      have := Nat.mul_le_mul h2 h2; omega
    rcases (by omega : a = 0 ∨ a = 1) with rfl | rfl <;> rcases (by omega : b = 0 ∨ b = 1) with rfl | rfl <;> simp at h <;> omega
  · rintro (⟨h1, h2⟩ | ⟨h1, h2⟩)
    · have h3 : a = 0 := by omega
      have h4 : b = 1 := by omega
      rw [h3, h4]; rfl
    · have h3 : a = 1 := by omega
      have h4 : b = 0 := by omega
      rw [h3, h4]; rfl
set_option maxRecDepth 20000 in
set_option maxHeartbeats 1000000 in
theorem rbeside_any {m : Mp} {a b c : Nat} {oa : Option Addr} {w : World} (hm : m.Ok) (ha : a < m.n) (hb : b < m.n) :
    Calls Try.prog 64 #[.agg #[.int .i64 m.wd, .slice oa m.n c], .int .i64 a, .int .i64 b] w fun e w' => e = .returned (.bool (nbB m a b)) ∧ Below w.heap.size w w' := by
  have HB := Lib.hid ((Below.refl w.heap.size w).alloc (Nat.le_refl _) (.cells #[.int .i64 m.wd, .slice oa m.n c] 28))
  have f0 : (w.alloc (.cells #[.int .i64 m.wd, .slice oa m.n c] 28)).cell? ⟨w.heap.size, 0, none⟩ = some (.int .i64 m.wd) := by simp [go_sem]
  have hm0 : ¬ m.wd = 0 := by have := hm.w0; omega
  have hn := hm.n1
  obtain ⟨ra, hra⟩ : ∃ r, r = a % m.wd := ⟨_, rfl⟩
  obtain ⟨rb, hrb⟩ : ∃ r, r = b % m.wd := ⟨_, rfl⟩
  obtain ⟨qa, hqa⟩ : ∃ r, r = a / m.wd := ⟨_, rfl⟩
  obtain ⟨qb, hqb⟩ : ∃ r, r = b / m.wd := ⟨_, rfl⟩
  have e1 : (a : Int).tmod (m.wd : Int) = (ra : Int) := by rw [hra]; exact (Int.ofNat_tmod a m.wd).symm
  have e2 : (b : Int).tmod (m.wd : Int) = (rb : Int) := by rw [hrb]; exact (Int.ofNat_tmod b m.wd).symm
  have e3 : (a : Int).tdiv (m.wd : Int) = (qa : Int) := by rw [hqa]; exact (Int.ofNat_tdiv a m.wd).symm
  have e4 : (b : Int).tdiv (m.wd : Int) = (qb : Int) := by rw [hqb]; exact (Int.ofNat_tdiv b m.wd).symm
  have r1 : ra < 100 := by have := Nat.mod_le a m.wd; omega
  have r2 : rb < 100 := by have := Nat.mod_le b m.wd; omega
  have r3 : qa < 100 := by have := Nat.div_le_self a m.wd; omega
  have r4 : qb < 100 := by have := Nat.div_le_self b m.wd; omega
  have W12 : Hid (wrap64 (qa : Int) = (qa : Int) ∧ wrap64 (qb : Int) = (qb : Int)) := Lib.hid ⟨IntWalk.wrap64_in _ (by omega), IntWalk.wrap64_in _ (by omega)⟩
  obtain ⟨x, hx⟩ : ∃ x : Int, x = (ra : Int) - rb := ⟨_, rfl⟩
  obtain ⟨y, hy⟩ : ∃ y : Int, y = (qa : Int) - qb := ⟨_, rfl⟩
  have h1 : IntKind.i64.wrap ((ra : Int) - rb) = x := by rw [hx]; exact IntWalk.i64_in _ (by omega)
  have h2 : IntKind.i64.wrap ((qa : Int) - qb) = y := by rw [hy]; exact IntWalk.i64_in _ (by omega)
  have sx := sq_le (x := x) (by omega) (by omega)
  have sy := sq_le (x := y) (by omega) (by omega)
  obtain ⟨p, hp⟩ : ∃ p, p = x * x := ⟨_, rfl⟩
  obtain ⟨q, hq⟩ : ∃ q, q = y * y := ⟨_, rfl⟩
  have h3 : IntKind.i64.wrap (x * x) = p := by rw [hp]; exact IntWalk.i64_in _ (by omega)
  have h4 : IntKind.i64.wrap (y * y) = q := by rw [hq]; exact IntWalk.i64_in _ (by omega)
  obtain ⟨s, hs⟩ : ∃ s, s = p + q := ⟨_, rfl⟩
  have h5 : IntKind.i64.wrap (p + q) = s := by rw [hs]; exact IntWalk.i64_in _ (by rw [hp, hq]; omega)
  obtain ⟨z, hz⟩ : ∃ z, z = nbB m a b := ⟨_, rfl⟩
  have h6 : (s == 1) = z := by
    rw [hz, Bool.eq_iff_iff, beq_iff_eq, nbB_iff, nb_xy hm ha hb, hs, hp, hq, sq_one, ← hra, ← hrb, ← hqa, ← hqb, hx, hy]
    omega
  rw [← hz]
  clear hra hrb hqa hqb r1 r2 r3 r4 hx hy sx sy hp hq hs hz ha hb hn
  have HM := Lib.hid hm
  clear hm
  obtain ⟨w1, w2⟩ := W12.out
  clear W12
  go_enter Try.func64, Try.ntmps64
  go_wp2_with fail
  generalize w.alloc (.cells #[.int .i64 m.wd, .slice oa m.n c] 28) = w1 at HB f0 ⊢
  go_quiet (fail)
  go_wp2
  go_ret
  exact ⟨rfl, below_drewN HB.out _⟩
set_option maxHeartbeats 4000000 in
theorem redge_aux {wd n p c : Nat} {a : Option Addr} {w : World} (hw0 : 0 < wd) (hw64 : wd ≤ 100) (hn : n ≤ 100) (hp : p < n) :
    Calls Try.prog 73 #[.agg #[.int .i64 wd, .slice a n c], .int .i64 p] w fun e w' => e = .returned (.bool (edgeB wd n p)) ∧ Below w.heap.size w w' := by
  have HB := Lib.hid ((Below.refl w.heap.size w).alloc (Nat.le_refl _) (.cells #[.int .i64 wd, .slice a n c] 28))
  have f0 : (w.alloc (.cells #[.int .i64 wd, .slice a n c] 28)).cell? ⟨w.heap.size, 0, none⟩ = some (.int .i64 wd) := by simp [go_sem]
  have f1 : (w.alloc (.cells #[.int .i64 wd, .slice a n c] 28)).cell? ⟨w.heap.size, 1, none⟩ = some (.slice a n c) := by simp [go_sem]
  have hm0 : ¬ wd = 0 := by omega
  obtain ⟨r, hr⟩ : ∃ r, r = p % wd := ⟨_, rfl⟩
  obtain ⟨q, hq⟩ : ∃ q, q = p / wd := ⟨_, rfl⟩
  obtain ⟨h, hh⟩ : ∃ h, h = n / wd := ⟨_, rfl⟩
  have e1 : (p : Int).tmod (wd : Int) = (r : Int) := by rw [hr]; exact (Int.ofNat_tmod p wd).symm
  have e2 : (p : Int).tdiv (wd : Int) = (q : Int) := by rw [hq]; exact (Int.ofNat_tdiv p wd).symm
  have e3 : (n : Int).tdiv (wd : Int) = (h : Int) := by rw [hh]; exact (Int.ofNat_tdiv n wd).symm
  have r3 : h ≤ 100 := by have := Nat.div_le_self n wd; omega
  have r4 : q ≤ 100 := by have := Nat.div_le_self p wd; omega
  have W12 : Hid (wrap64 (q : Int) = (q : Int) ∧ wrap64 (h : Int) = (h : Int)) := Lib.hid ⟨IntWalk.wrap64_in _ (by omega), IntWalk.wrap64_in _ (by omega)⟩
  obtain ⟨z, hz⟩ : ∃ z, z = edgeB wd n p := ⟨_, rfl⟩
  have hz2 := hz
  rw [edgeB, ← hr, ← hq, ← hh] at hz2
  rw [← hz]
  have hx : IntKind.i64.wrap ((h : Int) - 1) = (h : Int) - 1 := IntWalk.i64_in _ (by omega)
  have hy : IntKind.i64.wrap ((wd : Int) - 1) = (wd : Int) - 1 := IntWalk.i64_in _ (by have := hw64; omega)
  clear hr hq hh hz r3 r4
  by_cases h0 : r = 0
  · have d0 : ((r : Int) == 0) = true := by rw [beq_iff_eq]; omega
    have HZ : Hid (z = true) := Lib.hid (by rw [hz2]; simp [h0])
    clear h0
    clear hz2
    obtain ⟨w1, w2⟩ := W12.out
    clear W12
    go_enter Try.func73, Try.ntmps73
    go_wp2_with fail
    generalize hW : w.alloc (.cells #[.int .i64 wd, .slice a n c] 28) = W0 at HB f0 f1 ⊢
    go_quiet (fail)
    go_wp2
    try go_quiet (fail)
    try go_wp2
    go_ret
    exact ⟨by rw [HZ.out]; rfl, by first | exact below_drewN HB.out _ | exact below_drewN (below_drewN HB.out _) _⟩
  · have d0 : ((r : Int) == 0) = false := by rw [beq_eq_false_iff_ne]; omega
    by_cases h1 : q = 0
    · have d1 : ((q : Int) == 0) = true := by rw [beq_iff_eq]; omega
      have HZ : Hid (z = true) := Lib.hid (by rw [hz2]; simp [h1])
      clear h0 h1
      clear hz2
      obtain ⟨w1, w2⟩ := W12.out
      clear W12
      go_enter Try.func73, Try.ntmps73
      go_wp2_with fail
      generalize hW : w.alloc (.cells #[.int .i64 wd, .slice a n c] 28) = W0 at HB f0 f1 ⊢
      go_quiet (fail)
      go_wp2
      try go_quiet (fail)
      try go_wp2
      go_ret
      exact ⟨by rw [HZ.out]; rfl, by first | exact below_drewN HB.out _ | exact below_drewN (below_drewN HB.out _) _⟩
    · have d1 : ((q : Int) == 0) = false := by rw [beq_eq_false_iff_ne]; omega
      by_cases h2 : (r : Int) = (wd : Int) - 1
      · have d2 : ((r : Int) == (wd : Int) - 1) = true := by rw [beq_iff_eq]; omega
        have HZ : Hid (z = true) := Lib.hid (by rw [hz2]; simp [h2])
        clear h0 h1 h2
        clear hz2
        obtain ⟨w1, w2⟩ := W12.out
        clear W12
        go_enter Try.func73, Try.ntmps73
        go_wp2_with fail
        generalize hW : w.alloc (.cells #[.int .i64 wd, .slice a n c] 28) = W0 at HB f0 f1 ⊢
        go_quiet (fail)
        go_wp2
        try go_quiet (fail)
        try go_wp2
        go_ret
        exact ⟨by rw [HZ.out]; rfl, by first | exact below_drewN HB.out _ | exact below_drewN (below_drewN HB.out _) _⟩
      · have d2 : ((r : Int) == (wd : Int) - 1) = false := by rw [beq_eq_false_iff_ne]; omega
        by_cases h3 : (q : Int) = (h : Int) - 1
        · have d3 : ((q : Int) == (h : Int) - 1) = true := by rw [beq_iff_eq]; omega
          have HZ : Hid (z = true) := Lib.hid (by rw [hz2]; simp [h3])
          clear h0 h1 h2 h3
          clear hz2
          obtain ⟨w1, w2⟩ := W12.out
          clear W12
          go_enter Try.func73, Try.ntmps73
          go_wp2_with fail
          generalize hW : w.alloc (.cells #[.int .i64 wd, .slice a n c] 28) = W0 at HB f0 f1 ⊢
          go_quiet (fail)
          go_wp2
          try go_quiet (fail)
          try go_wp2
          go_ret
          exact ⟨by rw [HZ.out]; rfl, by first | exact below_drewN HB.out _ | exact below_drewN (below_drewN HB.out _) _⟩
        · have d3 : ((q : Int) == (h : Int) - 1) = false := by rw [beq_eq_false_iff_ne]; omega
          have HZ : Hid (z = false) := Lib.hid (by rw [hz2]; simp [h0, h1, h2, h3])
          clear h0 h1 h2 h3
          clear hz2
          obtain ⟨w1, w2⟩ := W12.out
          clear W12
          go_enter Try.func73, Try.ntmps73
          go_wp2_with fail
          generalize hW : w.alloc (.cells #[.int .i64 wd, .slice a n c] 28) = W0 at HB f0 f1 ⊢
          go_quiet (fail)
          go_wp2
          try go_quiet (fail)
          try go_wp2
          go_ret
          exact ⟨by rw [HZ.out]; rfl, by first | exact below_drewN HB.out _ | exact below_drewN (below_drewN HB.out _) _⟩
theorem redge_any {m : Mp} (hm : m.Ok) {p c : Nat} {a : Option Addr} {w : World} (hp : p < m.n) :
    Calls Try.prog 73 #[.agg #[.int .i64 m.wd, .slice a m.n c], .int .i64 p] w fun e w' => e = .returned (.bool (rimB m p)) ∧ Below w.heap.size w w' := by
  have h := redge_aux (c := c) (a := a) (w := w) hm.w0 (Nat.le_trans hm.wn hm.n1) hm.n1 hp
  rw [edge_rim hm hp] at h
  exact h
/-- how many regions a list of their numbers has -/
def manyL : List Int → Int → Int
  | [], n => n
  | x :: l, n => manyL l (max n (x + 1))
theorem manyL_snoc (x : Int) : ∀ (l : List Int) (n : Int), manyL (l ++ [x]) n = max (manyL l n) (x + 1)
  | [], _ => rfl
  | y :: l, n => manyL_snoc x l _
theorem manyL_range : ∀ (l : List Int) (n : Int), (∀ x ∈ l, 0 ≤ x ∧ x ≤ 1000) → 0 ≤ n → n ≤ 1001 → 0 ≤ manyL l n ∧ manyL l n ≤ 1001
  | [], n, _, h1, h2 => ⟨h1, h2⟩
  | x :: l, n, h, h1, h2 => manyL_range l _ (fun y hy => h y (List.mem_cons_of_mem _ hy)) (by omega) (by have := h x List.mem_cons_self; omega)
theorem many_reg {m : Mp} (hm : m.Ok) {r : Nat → Nat} {k : Nat} (hk : IsMany m r k) : manyL (regL r m.n) 0 = k := by
  have hle : ∀ t, t ≤ m.n → manyL (regL r t) 0 ≤ k ∧ ∀ p, p < t → (r p : Int) + 1 ≤ manyL (regL r t) 0 := by
    intro t
    induction t with
    | zero => intro _; exact ⟨by show (0 : Int) ≤ k; omega, fun p hp => by omega⟩
    | succ t ih =>
      intro ht
      have h := ih (by omega)
      have e : regL r (t + 1) = regL r t ++ [(r t : Int)] := by unfold regL; rw [List.range_succ, List.map_append]; rfl
      rw [e, manyL_snoc]
      have h2 := hk.lt t (by omega)
      refine ⟨by omega, fun p hp => ?_⟩
      by_cases ep : p = t
      · subst ep; omega
      · have := h.2 p (by omega); omega
  have h := hle m.n (Nat.le_refl _)
  have hk0 : 0 < k := Nat.lt_of_le_of_lt (Nat.zero_le _) (hk.lt 0 hm.n0)
  obtain ⟨p, h1, h2⟩ := hk.ex (k - 1) (by omega)
  have := h.2 p h1
  omega
set_option maxRecDepth 20000 in
set_option maxHeartbeats 1000000 in
theorem rmany_any {B : Nat} {v : Value} {l : List Int} {w : World} (hl : l.length ≤ 100000) (hx : ∀ x ∈ l, 0 ≤ x ∧ x ≤ 1000) (hv : RS B w v l.length (ints l)) :
    Calls Try.prog 65 #[v] w fun e w' => e = .returned (.int .i64 (manyL l 0)) ∧ w' = w := by
  have HV := Lib.hid hv
  obtain ⟨a, c, rfl, -⟩ := hv
  have HX := Lib.hid hx
  clear hx
  go_enter Try.func65, Try.ntmps65
  go_wp2_with fail
  go_loop [3, 4] (fun nv v => ∃ k : Nat, k ≤ l.length ∧ v = .int .i64 k ∧ nv = .int .i64 (manyL (l.take k) 0)) (fun _ v => l.length - (intOf v).toNat)
  case atStart => exact ⟨0, Nat.zero_le _, rfl, rfl⟩
  case round =>
    obtain ⟨k, hk, rfl, rfl⟩ := hrel
    by_cases hlt : k < l.length
    · obtain ⟨b, off, rfl, ck⟩ := cell_of_RS (p := k) HV.out hlt
      obtain ⟨y, hy⟩ : ∃ y, y = l.getD k 0 := ⟨_, rfl⟩
      have hyl : y = l[k] := by rw [hy, List.getD_eq_getElem?_getD, List.getElem?_eq_getElem hlt]; rfl
      rw [← hy] at ck
      have hy2 := HX.out y (by rw [hyl]; exact List.getElem_mem hlt)
      obtain ⟨u, hu⟩ : ∃ u, u = manyL (l.take k) 0 := ⟨_, rfl⟩
      have hur := manyL_range (l.take k) 0 (fun x hx => HX.out x (List.mem_of_mem_take hx)) (by omega) (by omega)
      rw [← hu] at hur ⊢
      have hw1 : IntKind.i64.wrap (y + 1) = y + 1 := IntWalk.i64_in _ (by omega)
      have HN : Hid (max u (y + 1) = manyL (l.take (k + 1)) 0) := Lib.hid (by rw [List.take_succ_eq_append_getElem hlt, manyL_snoc, ← hu, ← hyl])
      have hk64 : (k : Int) ≤ 100000 := by omega
      clear hy hyl hu hy2 hur
      go_wp2_with fail
      go_round
      case rel => exact ⟨k + 1, by omega, by go_num, by rw [HN.out]⟩
      case measure => simp [intOf]; omega
    · obtain rfl : k = l.length := by omega
      rw [List.take_length]
      go_wp2_with fail
      go_ret
      exact ⟨rfl, rfl⟩
end Go.Proofs.Ytkjcnkkmhkcddaa
