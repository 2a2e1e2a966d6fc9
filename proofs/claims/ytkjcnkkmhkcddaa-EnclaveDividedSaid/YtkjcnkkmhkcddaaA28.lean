/-
  Parts of the proof, in the order in which they build: EvY.
-/
import Derived.Test.YtkjcnkkmhkcddaaA27
set_option linter.unusedVariables false
set_option linter.unusedSimpArgs false
namespace Go.Proofs.Ytkjcnkkmhkcddaa
open Go.RowKit Go.Shelf
open Lim


attribute [local go_sem] Oper.semAt_some

theorem sum_take {xs : List Int} {k : Nat} (h : k < xs.length) : (xs.take (k + 1)).sum = (xs.take k).sum + xs.getD k 0 := by
  rw [List.take_succ_eq_append_getElem h, List.sum_append, List.getD_eq_getElem?_getD, List.getElem?_eq_getElem h]; simp
theorem sum_range {xs : List Int} (h : ∀ x ∈ xs, 0 ≤ x ∧ x ≤ 1000) : 0 ≤ xs.sum ∧ xs.sum ≤ 1000 * xs.length := by
  induction xs with
  | nil => simp
  | cons x xs ih =>
    have h1 := h x (by simp)
    have h2 := ih (fun y hy => h y (List.mem_cons_of_mem _ hy))
    simp only [List.sum_cons, List.length_cons, Int.natCast_add, Int.natCast_one]
    omega
set_option maxHeartbeats 400000 in
theorem sum_any {B : Nat} {v : Value} {xs : List Int} {w : World} (hn : xs.length ≤ 1000) (hv : RS B w v xs.length (ints xs)) (hb : ∀ x ∈ xs, 0 ≤ x ∧ x ≤ 1000) :
    Calls Try.prog 92 #[v] w fun e w' => e = .returned (.int .i64 xs.sum) ∧ w' = w := by
  have HV := Lib.hid hv
  obtain ⟨a, cap, rfl, -⟩ := hv
  have HB := Lib.hid hb
  clear hb
  go_enter Try.func92, Try.ntmps92
  go_wp2_with fail
  go_loop [3, 8] (fun s i => ∃ k : Nat, k ≤ xs.length ∧ i = .int .i64 k ∧ s = .int .i64 (xs.take k).sum) (fun _ i => xs.length - (intOf i).toNat)
  case atStart => exact ⟨0, Nat.zero_le _, rfl, by simp⟩
  case round =>
    obtain ⟨k, hk, rfl, rfl⟩ := hrel
    by_cases hlt : k < xs.length
    · obtain ⟨g, o, rfl, hc⟩ := cell_of_RS HV.out hlt
      obtain ⟨x, hx⟩ : ∃ x, x = xs.getD k 0 := ⟨_, rfl⟩
      obtain ⟨s, hs⟩ : ∃ s, s = (xs.take k).sum := ⟨_, rfl⟩
      have h1 := sum_range (xs := xs.take k) (fun y hy => HB.out y (List.mem_of_mem_take hy))
      have h2 := HB.out (xs.getD k 0) (by rw [List.getD_eq_getElem?_getD, List.getElem?_eq_getElem hlt]; exact List.getElem_mem _)
      rw [← hx] at hc h2
      rw [← hs] at h1 ⊢
      have h3 : (xs.take k).length ≤ 1000 := by simp; omega
      have hwr : IntKind.i64.wrap (s + x) = s + x := IntWalk.i64_in _ (by omega)
      have HS : Hid ((xs.take (k + 1)).sum = s + x) := Lib.hid (by rw [hs, hx]; exact sum_take hlt)
      have hlt' : (k : Int) < xs.length := by omega
      have HK := Lib.hid hlt
      clear hs hx h1 h2 h3
      go_wp2_with fail
      go_round
      case rel => exact ⟨k + 1, by have := HK.out; omega, by go_num, by rw [HS.out]⟩
      case measure => simp [intOf]; have := HK.out; omega
    · obtain rfl : k = xs.length := by omega
      go_wp2_with fail
      go_ret
      exact ⟨rfl, rfl⟩
/-- the houses that are cut at the first plots -/
def cutL (n wd : Nat) (o E S : Nat → Int) : Nat → List Int
  | 0 => []
  | p + 1 => (cutL n wd o E S p ++ if p % wd + 1 < wd ∧ o (p + 1) ≠ o p then [E p] else []) ++ if p + wd < n ∧ o (p + wd) ≠ o p then [S p] else []
theorem cutL_len {n wd : Nat} {o E S : Nat → Int} : ∀ p, (cutL n wd o E S p).length ≤ 2 * p
  | 0 => Nat.le_refl _
  | p + 1 => by
    have := cutL_len (n := n) (wd := wd) (o := o) (E := E) (S := S) p
    simp only [cutL, List.length_append]
    split <;> split <;> simp <;> omega
theorem cutL_mem {n wd : Nat} {o E S : Nat → Int} (hE : ∀ k, k < n → 0 ≤ E k ∧ E k ≤ 1000) (hS : ∀ k, k < n → 0 ≤ S k ∧ S k ≤ 1000) : ∀ p, p ≤ n → ∀ x ∈ cutL n wd o E S p, 0 ≤ x ∧ x ≤ 1000
  | 0, _, x, h => by cases h
  | p + 1, hp, x, h => by
    simp only [cutL, List.mem_append] at h
    rcases h with (h | h) | h
    · exact cutL_mem hE hS p (by omega) x h
    · split at h
      · simp at h; rw [h]; exact hE p (by omega)
      · cases h
    · split at h
      · simp at h; rw [h]; exact hS p (by omega)
      · cases h
theorem next_lt {n wd p : Nat} (hd : n % wd = 0) (hp : p < n) (h : p % wd + 1 < wd) : p + 1 < n := by
  obtain ⟨k, rfl⟩ := Nat.dvd_of_mod_eq_zero hd
  have h1 := Nat.div_add_mod p wd
  have h2 : p / wd < k := Nat.div_lt_of_lt_mul hp
  have h3 : wd * (p / wd) + wd ≤ wd * k := by
    rw [← Nat.mul_succ]; exact Nat.mul_le_mul_left _ h2
  omega
set_option maxRecDepth 20000 in
set_option maxHeartbeats 4000000 in
theorem cuts_any {B n wd : Nat} {ov ev sv wv : Value} {es ss ws : List Int} {E S o : Nat → Int} {w : World} (hB : B ≤ w.heap.size) (he : RS B w ev es.length (ints es)) (hs : RS B w sv ss.length (ints ss)) (hw : RS B w wv ws.length (ints ws))
    (hel : es.length = n) (hsl : ss.length = n) (hwl : ws.length = n) (hn : n ≤ 100) (hw0 : 0 < wd) (hd : n % wd = 0) (hwn : wd ≤ n) (hEq : ∀ k, es.getD k 0 = E k) (hSq : ∀ k, ss.getD k 0 = S k) (hoq : ∀ k, ws.getD k 0 = o k) (hE : ∀ k, k < n → 0 ≤ E k ∧ E k ≤ 1000) (hS : ∀ k, k < n → 0 ≤ S k ∧ S k ≤ 1000) :
    Calls Try.prog 59 #[.agg #[.int .i64 wd, ov, ev, sv], wv] w fun e w' => e = .returned (.int .i64 (cutL n wd o E S n).sum) ∧ Below w.heap.size w w' := by
  rw [hel] at he
  rw [hsl] at hs
  rw [hwl] at hw
  have HB := Lib.hid (show Below w.heap.size w (w.alloc (.cells #[.int .i64 wd, ov, ev, sv] 44)) from (Below.refl _ w).alloc (Nat.le_refl _) _)
  have HLD := Lib.hid (LdAt.box w wd ov ev sv)
  have hbB : Below B w (w.alloc (.cells #[.int .i64 wd, ov, ev, sv] 44)) := HB.out.mono hB
  have HES := Lib.hid (he.below hbB)
  have HSS := Lib.hid (hs.below hbB)
  have HWS := Lib.hid (hw.below hbB)
  have HC := Lib.hid (And.intro hE (And.intro hS (And.intro hel (And.intro hsl hwl))))
  have HD := Lib.hid (And.intro hd (And.intro hEq (And.intro hSq hoq)))
  have HBw : Hid (B ≤ (w.alloc (.cells #[.int .i64 wd, ov, ev, sv] 44)).heap.size) := Lib.hid (by simp; omega)
  obtain ⟨ea, ec, rfl, -⟩ := he
  obtain ⟨sa, sc, rfl, -⟩ := hs
  obtain ⟨wa, wc, rfl, -⟩ := hw
  clear hel hsl hwl hd hEq hSq hoq hE hS hbB hB
  obtain ⟨i0, hi, hz0, hz1, hz2⟩ := info_parts Try.infoInt
  have HF := Lib.hid (And.intro hi (And.intro hz0 (And.intro hz1 hz2)))
  clear hi hz0 hz1 hz2
  go_enter Try.func59, Try.ntmps59
  have f0 := HLD.out.f0
  have f2 := HLD.out.f2
  have f3 := HLD.out.f3
  go_wp2_with fail
  generalize w.alloc (.cells #[.int .i64 wd, ov, .slice ea n ec, .slice sa n sc] 44) = w1 at *
  go_loopw [5, 10] (fun v iv wr => ∃ p : Nat, p ≤ n ∧ iv = .int .i64 p ∧ Hid (Below w1.heap.size w1 wr ∧ wr.ownsRow w1.heap.size 3 1 v (cutL n wd o E S p).length (ints (cutL n wd o E S p)))) (fun _ iv _ => n - (intOf iv).toNat)
  case atStart => exact ⟨0, Nat.zero_le _, rfl, Lib.hid ⟨Below.refl _ _, World.ownsRow_nil _ _ _ _⟩⟩
  case round =>
    clear f0 f2 f3
    obtain ⟨p, hp, rfl, hP⟩ := hrel
    have f0 := hP.out.1.on HLD.out.f0
    have f2 := hP.out.1.on HLD.out.f2
    have f3 := hP.out.1.on HLD.out.f3
    by_cases hlt : p < n
    · have hlt64 : (p : Int) < n := by omega
      obtain ⟨gw, ow, hgw, cw⟩ := cell_of_RS HWS.out (p := p) (by rw [HC.out.2.2.2.2]; exact hlt)
      obtain ⟨ge, oe, hge, ce⟩ := cell_of_RS HES.out (p := p) (by rw [HC.out.2.2.1]; exact hlt)
      obtain ⟨gs, os', hgs, cs⟩ := cell_of_RS HSS.out (p := p) (by rw [HC.out.2.2.2.1]; exact hlt)
      subst hgw
      subst hge
      subst hgs
      rw [HD.out.2.2.2 p] at cw
      rw [HD.out.2.1 p] at ce
      rw [HD.out.2.2.1 p] at cs
      have HCE := Lib.hid ce
      have HCS := Lib.hid cs
      replace cw := hP.out.1.on cw
      clear ce cs
      obtain ⟨r, hr⟩ : ∃ r, r = p % wd := ⟨_, rfl⟩
      have e5 : (p : Int).tmod (wd : Int) = (r : Int) := by rw [hr]; exact (Int.ofNat_tmod p wd).symm
      have hm0 : ¬ (wd : Int) = 0 := by omega
      have hx : IntKind.i64.wrap ((wd : Int) - 1) = (wd : Int) - 1 := IntWalk.i64_in _ (by omega)
      have hy : IntKind.i64.wrap ((p : Int) + 1) = (p : Int) + 1 := IntWalk.i64_in _ (by omega)
      have hz : IntKind.i64.wrap ((p : Int) + wd) = (p : Int) + wd := IntWalk.i64_in _ (by omega)
      obtain ⟨L, hL⟩ : ∃ L, L = cutL n wd o E S p := ⟨_, rfl⟩
      have HL : Hid (L.length ≤ 200) := Lib.hid (by have := cutL_len (n := n) (wd := wd) (o := o) (E := E) (S := S) p; rw [← hL] at this; omega)
      have HN : Hid (cutL n wd o E S (p + 1) = (L ++ if r + 1 < wd ∧ o (p + 1) ≠ o p then [E p] else []) ++ if p + wd < n ∧ o (p + wd) ≠ o p then [S p] else []) := Lib.hid (by rw [cutL, ← hL, ← hr])
      have HA : Hid (Below w1.heap.size w1 wr ∧ wr.ownsRow w1.heap.size 3 1 u5 L.length (ints L) ∧ L.length ≤ 200) := Lib.hid ⟨hP.out.1, by rw [hL]; exact hP.out.2, HL.out⟩
      have HN1 : Hid (r + 1 < wd → p + 1 < n) := Lib.hid (fun h => next_lt HD.out.1 hlt (by rw [← hr]; exact h))
      obtain ⟨x0, hx0⟩ : ∃ x, x = o p := ⟨_, rfl⟩
      rw [← hx0] at cw HN
      clear hP hL hr HL hx0
      by_cases h1 : r + 1 < wd
      · have d1 : decide ((r : Int) < (wd : Int) - 1) = true := by simp; omega
        have hp1 := HN1.out h1
        obtain ⟨gv, ov', hgv, cx⟩ := cell_of_RS HWS.out (p := p + 1) (by rw [HC.out.2.2.2.2]; exact hp1)
        cases hgv
        rw [HD.out.2.2.2 (p + 1)] at cx
        replace cx := HA.out.1.on cx
        obtain ⟨x1, hx1⟩ : ∃ x, x = o (p + 1) := ⟨_, rfl⟩
        rw [← hx1] at cx HN
        clear hx1
        have hp1' : (p : Int) + 1 < n := by omega
        by_cases h2 : x1 = x0
        · have g1 : (x1 != x0) = false := by simp [h2]
          replace HN := Lib.hid (HN.out.trans (by rw [if_neg (fun h => h.2 h2), List.append_nil]))
          clear h2
          by_cases h5 : p + wd < n
          · have d5 : decide ((p : Int) + wd < n) = true := by simp; omega
            have h5' : (p : Int) + wd < n := by omega
            obtain ⟨gv2, ov2, hgv, cy1⟩ := cell_of_RS HWS.out (p := p + wd) (by rw [HC.out.2.2.2.2]; exact h5)
            cases hgv
            rw [HD.out.2.2.2 (p + wd)] at cy1
            obtain ⟨x2, hx2⟩ : ∃ x, x = o (p + wd) := ⟨_, rfl⟩
            rw [← hx2] at cy1 HN
            have HCY := Lib.hid cy1
            clear hx2 cy1
            by_cases h6 : x2 = x0
            · have g2 : (x2 != x0) = false := by simp [h6]
              have HNN : Hid (cutL n wd o E S (p + 1) = L) := Lib.hid (by rw [HN.out, if_neg (fun h => h.2 h6), List.append_nil])
              clear h6
              go_wp2_with fail
              go_quiet (fail)
              have hbq : Below wr.heap.size wr (wr.drewN nq) := below_drewN (Below.refl _ _) nq
              replace f0 := hbq.on f0
              replace f2 := hbq.on f2
              replace f3 := hbq.on f3
              have HA2 : Hid (Below w1.heap.size w1 (wr.drewN nq) ∧ (wr.drewN nq).ownsRow w1.heap.size 3 1 u5 L.length (ints L) ∧ L.length ≤ 200) := Lib.hid ⟨below_drewN HA.out.1 _, HA.out.2.1, HA.out.2.2⟩
              clear HA hbq cw
              generalize wr.drewN nq = WX at *
              clear cx
              have HX := HA2
              have cy := HX.out.1.on HCY.out
              go_wp2_with fail
              go_roundw
              case rel => exact ⟨p + 1, by omega, by go_num, Lib.hid ⟨HX.out.1, by rw [HNN.out]; exact HX.out.2.1⟩⟩
              case measure => simp [intOf]; omega
            · have g2 : (x2 != x0) = true := by simpa using h6
              have HNN : Hid (cutL n wd o E S (p + 1) = L ++ [S p]) := Lib.hid (by rw [HN.out, if_pos ⟨h5, h6⟩])
              clear h6
              go_wp2_with fail
              go_quiet (fail)
              have hbq : Below wr.heap.size wr (wr.drewN nq) := below_drewN (Below.refl _ _) nq
              replace f0 := hbq.on f0
              replace f2 := hbq.on f2
              replace f3 := hbq.on f3
              have HA2 : Hid (Below w1.heap.size w1 (wr.drewN nq) ∧ (wr.drewN nq).ownsRow w1.heap.size 3 1 u5 L.length (ints L) ∧ L.length ≤ 200) := Lib.hid ⟨below_drewN HA.out.1 _, HA.out.2.1, HA.out.2.2⟩
              clear HA hbq cw
              generalize wr.drewN nq = WX at *
              clear cx
              have HX := HA2
              have cy := HX.out.1.on HCY.out
              have cs := HX.out.1.on HCS.out
              go_wp2_with (at_builtin; refine wpList_append_own _ rfl _ _ 22 rfl w1.heap.size 3 i0 (.int .i64 0) 1 8 Try.underlying22 HF.out.1 HF.out.2.1 HF.out.2.2.1 HF.out.2.2.2 rfl (by decide) _ _ _ rfl (HX.out.2.1.alloc _) ⟨WX.heap.size, 0, none⟩ 1 1 [.int .i64 (S p)] rfl rfl (cell_one_new _ _ _) (by simp [Value.oneCell']) (by have := HX.out.2.2; unfold maxLen; omega) (by have := HX.out.2.2; omega) (by have := HX.out.1.size; simp; omega) ?_; intro v8 w8 hown8 hgrow _; have hb8 : Below w1.heap.size w1 w8 := (HX.out.1.trans (((Below.refl _ WX).alloc (Nat.le_refl _) _).mono HX.out.1.size)).grown hgrow (Nat.le_trans HX.out.1.size (by simp)) (fun x hx => by { have := (HX.out.2.1.lt x hx).1; omega }); have HW8 := Lib.hid (And.intro hb8 hown8); clear hown8 hgrow hb8)
              have HZ : Hid (Below w1.heap.size w1 w8 ∧ w8.ownsRow w1.heap.size 3 1 v8 (L ++ [S p]).length (ints (L ++ [S p]))) := Lib.hid ⟨HW8.out.1, by have := HW8.out.2; simpa [ints] using this⟩
              go_roundw
              case rel => exact ⟨p + 1, by omega, by go_num, Lib.hid ⟨HZ.out.1, by rw [HNN.out]; exact HZ.out.2⟩⟩
              case measure => simp [intOf]; omega
          · have d5 : decide ((p : Int) + wd < n) = false := by simp; omega
            have HNN : Hid (cutL n wd o E S (p + 1) = L) := Lib.hid (by rw [HN.out, if_neg (fun h => h5 h.1), List.append_nil])
            go_wp2_with fail
            go_quiet (fail)
            have hbq : Below wr.heap.size wr (wr.drewN nq) := below_drewN (Below.refl _ _) nq
            replace f0 := hbq.on f0
            replace f2 := hbq.on f2
            replace f3 := hbq.on f3
            have HA2 : Hid (Below w1.heap.size w1 (wr.drewN nq) ∧ (wr.drewN nq).ownsRow w1.heap.size 3 1 u5 L.length (ints L) ∧ L.length ≤ 200) := Lib.hid ⟨below_drewN HA.out.1 _, HA.out.2.1, HA.out.2.2⟩
            clear HA hbq cw
            generalize wr.drewN nq = WX at *
            clear cx
            have HX := HA2
            go_wp2_with fail
            go_roundw
            case rel => exact ⟨p + 1, by omega, by go_num, Lib.hid ⟨HX.out.1, by rw [HNN.out]; exact HX.out.2.1⟩⟩
            case measure => simp [intOf]; omega
        · have g1 : (x1 != x0) = true := by simpa using h2
          replace HN := Lib.hid (HN.out.trans (by rw [if_pos ⟨h1, h2⟩]))
          clear h2
          by_cases h5 : p + wd < n
          · have d5 : decide ((p : Int) + wd < n) = true := by simp; omega
            have h5' : (p : Int) + wd < n := by omega
            obtain ⟨gv2, ov2, hgv, cy1⟩ := cell_of_RS HWS.out (p := p + wd) (by rw [HC.out.2.2.2.2]; exact h5)
            cases hgv
            rw [HD.out.2.2.2 (p + wd)] at cy1
            obtain ⟨x2, hx2⟩ : ∃ x, x = o (p + wd) := ⟨_, rfl⟩
            rw [← hx2] at cy1 HN
            have HCY := Lib.hid cy1
            clear hx2 cy1
            by_cases h6 : x2 = x0
            · have g2 : (x2 != x0) = false := by simp [h6]
              have HNN : Hid (cutL n wd o E S (p + 1) = (L ++ [E p])) := Lib.hid (by rw [HN.out, if_neg (fun h => h.2 h6), List.append_nil])
              clear h6
              go_wp2_with fail
              go_quiet (fail)
              have hbq : Below wr.heap.size wr (wr.drewN nq) := below_drewN (Below.refl _ _) nq
              replace f0 := hbq.on f0
              replace f2 := hbq.on f2
              replace f3 := hbq.on f3
              have HA2 : Hid (Below w1.heap.size w1 (wr.drewN nq) ∧ (wr.drewN nq).ownsRow w1.heap.size 3 1 u5 L.length (ints L) ∧ L.length ≤ 200) := Lib.hid ⟨below_drewN HA.out.1 _, HA.out.2.1, HA.out.2.2⟩
              clear HA hbq cw
              generalize wr.drewN nq = wq at *
              clear cx
              have ce := HA2.out.1.on HCE.out
              go_wp2_with (at_builtin; refine wpList_append_own _ rfl _ _ 22 rfl w1.heap.size 3 i0 (.int .i64 0) 1 8 Try.underlying22 HF.out.1 HF.out.2.1 HF.out.2.2.1 HF.out.2.2.2 rfl (by decide) _ _ _ rfl (HA2.out.2.1.alloc _) ⟨wq.heap.size, 0, none⟩ 1 1 [.int .i64 (E p)] rfl rfl (cell_one_new _ _ _) (by simp [Value.oneCell']) (by have := HA2.out.2.2; unfold maxLen; omega) (by have := HA2.out.2.2; omega) (by have := HA2.out.1.size; simp; omega) ?_; intro v7 w7 hown7 hgrow _; have hb7 : Below w1.heap.size w1 w7 := (HA2.out.1.trans (((Below.refl _ wq).alloc (Nat.le_refl _) _).mono HA2.out.1.size)).grown hgrow (Nat.le_trans HA2.out.1.size (by simp)) (fun x hx => by { have := (HA2.out.2.1.lt x hx).1; omega }); have HW7 := Lib.hid (And.intro hb7 hown7); clear hown7 hgrow hb7; have HX : Hid (Below w1.heap.size w1 w7 ∧ w7.ownsRow w1.heap.size 3 1 v7 (L ++ [E p]).length (ints (L ++ [E p])) ∧ (L ++ [E p]).length ≤ 201) := Lib.hid ⟨HW7.out.1, by { have := HW7.out.2; simpa [ints] using this }, by { have := HA2.out.2.2; simp; omega }⟩; clear f0 f2 f3 ce; have f0 := HX.out.1.on HLD.out.f0; have f2 := HX.out.1.on HLD.out.f2; have f3 := HX.out.1.on HLD.out.f3; have cy := HX.out.1.on HCY.out)
              go_roundw
              case rel => exact ⟨p + 1, by omega, by go_num, Lib.hid ⟨HX.out.1, by rw [HNN.out]; exact HX.out.2.1⟩⟩
              case measure => simp [intOf]; omega
            · have g2 : (x2 != x0) = true := by simpa using h6
              have HNN : Hid (cutL n wd o E S (p + 1) = (L ++ [E p]) ++ [S p]) := Lib.hid (by rw [HN.out, if_pos ⟨h5, h6⟩])
              clear h6
              go_wp2_with fail
              go_quiet (fail)
              have hbq : Below wr.heap.size wr (wr.drewN nq) := below_drewN (Below.refl _ _) nq
              replace f0 := hbq.on f0
              replace f2 := hbq.on f2
              replace f3 := hbq.on f3
              have HA2 : Hid (Below w1.heap.size w1 (wr.drewN nq) ∧ (wr.drewN nq).ownsRow w1.heap.size 3 1 u5 L.length (ints L) ∧ L.length ≤ 200) := Lib.hid ⟨below_drewN HA.out.1 _, HA.out.2.1, HA.out.2.2⟩
              clear HA hbq cw
              generalize wr.drewN nq = wq at *
              clear cx
              have ce := HA2.out.1.on HCE.out
              go_wp2_with first | (at_builtin; refine wpList_append_own _ rfl _ _ 22 rfl w1.heap.size 3 i0 (.int .i64 0) 1 8 Try.underlying22 HF.out.1 HF.out.2.1 HF.out.2.2.1 HF.out.2.2.2 rfl (by decide) _ _ _ rfl (HX.out.2.1.alloc _) ⟨w7.heap.size, 0, none⟩ 1 1 [.int .i64 (S p)] rfl rfl (cell_one_new _ _ _) (by simp [Value.oneCell']) (by have := HX.out.2.2; unfold maxLen; omega) (by have := HX.out.2.2; omega) (by have := HX.out.1.size; simp; omega) ?_; intro v8 w8 hown8 hgrow _; have hb8 : Below w1.heap.size w1 w8 := (HX.out.1.trans (((Below.refl _ w7).alloc (Nat.le_refl _) _).mono HX.out.1.size)).grown hgrow (Nat.le_trans HX.out.1.size (by simp)) (fun x hx => by { have := (HX.out.2.1.lt x hx).1; omega }); have HW8 := Lib.hid (And.intro hb8 hown8); clear hown8 hgrow hb8) | (at_builtin; refine wpList_append_own _ rfl _ _ 22 rfl w1.heap.size 3 i0 (.int .i64 0) 1 8 Try.underlying22 HF.out.1 HF.out.2.1 HF.out.2.2.1 HF.out.2.2.2 rfl (by decide) _ _ _ rfl (HA2.out.2.1.alloc _) ⟨wq.heap.size, 0, none⟩ 1 1 [.int .i64 (E p)] rfl rfl (cell_one_new _ _ _) (by simp [Value.oneCell']) (by have := HA2.out.2.2; unfold maxLen; omega) (by have := HA2.out.2.2; omega) (by have := HA2.out.1.size; simp; omega) ?_; intro v7 w7 hown7 hgrow _; have hb7 : Below w1.heap.size w1 w7 := (HA2.out.1.trans (((Below.refl _ wq).alloc (Nat.le_refl _) _).mono HA2.out.1.size)).grown hgrow (Nat.le_trans HA2.out.1.size (by simp)) (fun x hx => by { have := (HA2.out.2.1.lt x hx).1; omega }); have HW7 := Lib.hid (And.intro hb7 hown7); clear hown7 hgrow hb7; have HX : Hid (Below w1.heap.size w1 w7 ∧ w7.ownsRow w1.heap.size 3 1 v7 (L ++ [E p]).length (ints (L ++ [E p])) ∧ (L ++ [E p]).length ≤ 201) := Lib.hid ⟨HW7.out.1, by { have := HW7.out.2; simpa [ints] using this }, by { have := HA2.out.2.2; simp; omega }⟩; clear f0 f2 f3 ce; have f0 := HX.out.1.on HLD.out.f0; have f2 := HX.out.1.on HLD.out.f2; have f3 := HX.out.1.on HLD.out.f3; have cy := HX.out.1.on HCY.out; have cs := HX.out.1.on HCS.out)
              have HZ : Hid (Below w1.heap.size w1 w8 ∧ w8.ownsRow w1.heap.size 3 1 v8 ((L ++ [E p]) ++ [S p]).length (ints ((L ++ [E p]) ++ [S p]))) := Lib.hid ⟨HW8.out.1, by have := HW8.out.2; simpa [ints] using this⟩
              go_roundw
              case rel => exact ⟨p + 1, by omega, by go_num, Lib.hid ⟨HZ.out.1, by rw [HNN.out]; exact HZ.out.2⟩⟩
              case measure => simp [intOf]; omega
          · have d5 : decide ((p : Int) + wd < n) = false := by simp; omega
            have HNN : Hid (cutL n wd o E S (p + 1) = (L ++ [E p])) := Lib.hid (by rw [HN.out, if_neg (fun h => h5 h.1), List.append_nil])
            go_wp2_with fail
            go_quiet (fail)
            have hbq : Below wr.heap.size wr (wr.drewN nq) := below_drewN (Below.refl _ _) nq
            replace f0 := hbq.on f0
            replace f2 := hbq.on f2
            replace f3 := hbq.on f3
            have HA2 : Hid (Below w1.heap.size w1 (wr.drewN nq) ∧ (wr.drewN nq).ownsRow w1.heap.size 3 1 u5 L.length (ints L) ∧ L.length ≤ 200) := Lib.hid ⟨below_drewN HA.out.1 _, HA.out.2.1, HA.out.2.2⟩
            clear HA hbq cw
            generalize wr.drewN nq = wq at *
            clear cx
            have ce := HA2.out.1.on HCE.out
            go_wp2_with (at_builtin; refine wpList_append_own _ rfl _ _ 22 rfl w1.heap.size 3 i0 (.int .i64 0) 1 8 Try.underlying22 HF.out.1 HF.out.2.1 HF.out.2.2.1 HF.out.2.2.2 rfl (by decide) _ _ _ rfl (HA2.out.2.1.alloc _) ⟨wq.heap.size, 0, none⟩ 1 1 [.int .i64 (E p)] rfl rfl (cell_one_new _ _ _) (by simp [Value.oneCell']) (by have := HA2.out.2.2; unfold maxLen; omega) (by have := HA2.out.2.2; omega) (by have := HA2.out.1.size; simp; omega) ?_; intro v7 w7 hown7 hgrow _; have hb7 : Below w1.heap.size w1 w7 := (HA2.out.1.trans (((Below.refl _ wq).alloc (Nat.le_refl _) _).mono HA2.out.1.size)).grown hgrow (Nat.le_trans HA2.out.1.size (by simp)) (fun x hx => by { have := (HA2.out.2.1.lt x hx).1; omega }); have HW7 := Lib.hid (And.intro hb7 hown7); clear hown7 hgrow hb7; have HX : Hid (Below w1.heap.size w1 w7 ∧ w7.ownsRow w1.heap.size 3 1 v7 (L ++ [E p]).length (ints (L ++ [E p])) ∧ (L ++ [E p]).length ≤ 201) := Lib.hid ⟨HW7.out.1, by { have := HW7.out.2; simpa [ints] using this }, by { have := HA2.out.2.2; simp; omega }⟩; clear f0 f2 f3 ce; have f0 := HX.out.1.on HLD.out.f0; have f2 := HX.out.1.on HLD.out.f2; have f3 := HX.out.1.on HLD.out.f3)
            go_roundw
            case rel => exact ⟨p + 1, by omega, by go_num, Lib.hid ⟨HX.out.1, by rw [HNN.out]; exact HX.out.2.1⟩⟩
            case measure => simp [intOf]; omega
      · have d1 : decide ((r : Int) < (wd : Int) - 1) = false := by simp; omega
        replace HN := Lib.hid (HN.out.trans (by rw [if_neg (fun h => h1 h.1), List.append_nil]))
        by_cases h5 : p + wd < n
        · have d5 : decide ((p : Int) + wd < n) = true := by simp; omega
          have h5' : (p : Int) + wd < n := by omega
          obtain ⟨gv2, ov2, hgv, cy1⟩ := cell_of_RS HWS.out (p := p + wd) (by rw [HC.out.2.2.2.2]; exact h5)
          cases hgv
          rw [HD.out.2.2.2 (p + wd)] at cy1
          obtain ⟨x2, hx2⟩ : ∃ x, x = o (p + wd) := ⟨_, rfl⟩
          rw [← hx2] at cy1 HN
          have HCY := Lib.hid cy1
          clear hx2 cy1
          by_cases h6 : x2 = x0
          · have g2 : (x2 != x0) = false := by simp [h6]
            have HNN : Hid (cutL n wd o E S (p + 1) = L) := Lib.hid (by rw [HN.out, if_neg (fun h => h.2 h6), List.append_nil])
            clear h6
            go_wp2_with fail
            go_quiet (fail)
            have hbq : Below wr.heap.size wr (wr.drewN nq) := below_drewN (Below.refl _ _) nq
            replace f0 := hbq.on f0
            replace f2 := hbq.on f2
            replace f3 := hbq.on f3
            have HA2 : Hid (Below w1.heap.size w1 (wr.drewN nq) ∧ (wr.drewN nq).ownsRow w1.heap.size 3 1 u5 L.length (ints L) ∧ L.length ≤ 200) := Lib.hid ⟨below_drewN HA.out.1 _, HA.out.2.1, HA.out.2.2⟩
            clear HA hbq cw
            generalize wr.drewN nq = WX at *
            have HX := HA2
            have cy := HX.out.1.on HCY.out
            go_wp2_with fail
            go_roundw
            case rel => exact ⟨p + 1, by omega, by go_num, Lib.hid ⟨HX.out.1, by rw [HNN.out]; exact HX.out.2.1⟩⟩
            case measure => simp [intOf]; omega
          · have g2 : (x2 != x0) = true := by simpa using h6
            have HNN : Hid (cutL n wd o E S (p + 1) = L ++ [S p]) := Lib.hid (by rw [HN.out, if_pos ⟨h5, h6⟩])
            clear h6
            go_wp2_with fail
            go_quiet (fail)
            have hbq : Below wr.heap.size wr (wr.drewN nq) := below_drewN (Below.refl _ _) nq
            replace f0 := hbq.on f0
            replace f2 := hbq.on f2
            replace f3 := hbq.on f3
            have HA2 : Hid (Below w1.heap.size w1 (wr.drewN nq) ∧ (wr.drewN nq).ownsRow w1.heap.size 3 1 u5 L.length (ints L) ∧ L.length ≤ 200) := Lib.hid ⟨below_drewN HA.out.1 _, HA.out.2.1, HA.out.2.2⟩
            clear HA hbq cw
            generalize wr.drewN nq = WX at *
            have HX := HA2
            have cy := HX.out.1.on HCY.out
            have cs := HX.out.1.on HCS.out
            go_wp2_with (at_builtin; refine wpList_append_own _ rfl _ _ 22 rfl w1.heap.size 3 i0 (.int .i64 0) 1 8 Try.underlying22 HF.out.1 HF.out.2.1 HF.out.2.2.1 HF.out.2.2.2 rfl (by decide) _ _ _ rfl (HX.out.2.1.alloc _) ⟨WX.heap.size, 0, none⟩ 1 1 [.int .i64 (S p)] rfl rfl (cell_one_new _ _ _) (by simp [Value.oneCell']) (by have := HX.out.2.2; unfold maxLen; omega) (by have := HX.out.2.2; omega) (by have := HX.out.1.size; simp; omega) ?_; intro v8 w8 hown8 hgrow _; have hb8 : Below w1.heap.size w1 w8 := (HX.out.1.trans (((Below.refl _ WX).alloc (Nat.le_refl _) _).mono HX.out.1.size)).grown hgrow (Nat.le_trans HX.out.1.size (by simp)) (fun x hx => by { have := (HX.out.2.1.lt x hx).1; omega }); have HW8 := Lib.hid (And.intro hb8 hown8); clear hown8 hgrow hb8)
            have HZ : Hid (Below w1.heap.size w1 w8 ∧ w8.ownsRow w1.heap.size 3 1 v8 (L ++ [S p]).length (ints (L ++ [S p]))) := Lib.hid ⟨HW8.out.1, by have := HW8.out.2; simpa [ints] using this⟩
            go_roundw
            case rel => exact ⟨p + 1, by omega, by go_num, Lib.hid ⟨HZ.out.1, by rw [HNN.out]; exact HZ.out.2⟩⟩
            case measure => simp [intOf]; omega
        · have d5 : decide ((p : Int) + wd < n) = false := by simp; omega
          have HNN : Hid (cutL n wd o E S (p + 1) = L) := Lib.hid (by rw [HN.out, if_neg (fun h => h5 h.1), List.append_nil])
          go_wp2_with fail
          go_quiet (fail)
          have hbq : Below wr.heap.size wr (wr.drewN nq) := below_drewN (Below.refl _ _) nq
          replace f0 := hbq.on f0
          replace f2 := hbq.on f2
          replace f3 := hbq.on f3
          have HA2 : Hid (Below w1.heap.size w1 (wr.drewN nq) ∧ (wr.drewN nq).ownsRow w1.heap.size 3 1 u5 L.length (ints L) ∧ L.length ≤ 200) := Lib.hid ⟨below_drewN HA.out.1 _, HA.out.2.1, HA.out.2.2⟩
          clear HA hbq cw
          generalize wr.drewN nq = WX at *
          have HX := HA2
          go_wp2_with fail
          go_roundw
          case rel => exact ⟨p + 1, by omega, by go_num, Lib.hid ⟨HX.out.1, by rw [HNN.out]; exact HX.out.2.1⟩⟩
          case measure => simp [intOf]; omega
    · obtain rfl : p = n := by omega
      go_wp2_with fail
      refine (sum_any (B := wr.heap.size) (xs := cutL p wd o E S p) (by have := cutL_len (n := p) (wd := wd) (o := o) (E := E) (S := S) p; omega) (RS.of_owns hP.out.2) (cutL_mem HC.out.1 HC.out.2.1 p (Nat.le_refl _))).mono ?_
      rintro e w' ⟨rfl, rfl⟩
      go_wp2_with fail
      go_ret
      exact ⟨rfl, HB.out.trans (hP.out.1.mono HB.out.size)⟩
end Go.Proofs.Ytkjcnkkmhkcddaa
