/-
  Parts of the proof, in the order in which they build: RtA.
-/
import Derived.Test.YtobmhamdkngehaaA21
import Derived.Test.YtobmhamdkngehaaB5
set_option linter.unusedVariables false
set_option linter.unusedSimpArgs false
namespace Go.Proofs.Ytobmhamdkngehaa
open Go.RowKit Go.Shelf
open Lim

theorem between_succ (l : List (Int × Int)) {a k : Nat} (ha : a ≤ k) (hk : k < l.length) : between l a (k + 1) = between l a k ++ [l[k]] := by
  unfold between
  rw [List.take_succ_eq_append_getElem hk, List.drop_append_of_le_length (by rw [List.length_take]; omega)]
theorem sumLo_snoc (l : List (Int × Int)) (s : Int × Int) : sumLo (l ++ [s]) = sumLo l + s.1 := by
  unfold sumLo; rw [List.map_append, List.foldl_append]; rfl
theorem sumHi_snoc (l : List (Int × Int)) (s : Int × Int) : sumHi (l ++ [s]) = sumHi l + s.2 := by
  unfold sumHi; rw [List.map_append, List.foldl_append]; rfl
theorem between_self (l : List (Int × Int)) (a : Nat) : between l a a = [] := by
  unfold between
  exact List.drop_eq_nil_of_le (by rw [List.length_take]; omega)
theorem between_bd {l : List (Int × Int)} (h : SpOk l) (a b : Nat) (hl : l.length ≤ 100) : (0 ≤ sumLo (between l a b) ∧ sumLo (between l a b) ≤ 100000000) ∧ (0 ≤ sumHi (between l a b) ∧ sumHi (between l a b) ≤ 100000000) := by
  have h1 : SpOk (between l a b) := fun s hs => h s (between_mem hs)
  have h2 := sum_bd h1 (between l a b).length (Nat.le_refl _)
  rw [List.take_length] at h2
  have h3 : (between l a b).length ≤ 100 := by
    unfold between
    rw [List.length_drop, List.length_take]
    omega
  omega
set_option maxRecDepth 20000 in
set_option maxHeartbeats 2000000 in
theorem rfits_any {B a b : Nat} {v : Value} {l : List (Int × Int)} {glo ghi : Int} {w : World} (hB : B ≤ w.heap.size) (hv : RS B w v l.length (spans l)) (hn : l.length ≤ 100) (hl : SpOk l) (hab : a ≤ b) (hb : b ≤ l.length) :
    Calls Try.prog 101 #[v, .int .i64 (a : Int), .int .i64 (b : Int), .agg #[.int .i64 glo, .int .i64 ghi]] w fun e w' => e = .returned (.bool (fitsB l a b (glo, ghi))) ∧ Below w.heap.size w w' := by
  obtain ⟨va, vc, rfl, hvc⟩ := hv
  have HVC := Lib.hid hvc
  obtain ⟨n, hnn⟩ : ∃ n, n = l.length := ⟨_, rfl⟩
  rw [← hnn]
  have HN : Hid (n = l.length ∧ l.length ≤ 100 ∧ SpOk l ∧ B ≤ w.heap.size) := Lib.hid ⟨hnn, hn, hl, hB⟩
  have hbn : b ≤ n := by omega
  have n100 : n ≤ 100 := by omega
  have HM : Hid (Below w.heap.size w (w.alloc (.cells #[.int .i64 glo, .int .i64 ghi] 25)) ∧ (w.alloc (.cells #[.int .i64 glo, .int .i64 ghi] 25)).cell? ⟨w.heap.size, 0, none⟩ = some (.int .i64 glo) ∧ (w.alloc (.cells #[.int .i64 glo, .int .i64 ghi] 25)).cell? ⟨w.heap.size, 1, none⟩ = some (.int .i64 ghi)) := Lib.hid ⟨(Below.refl _ w).alloc (Nat.le_refl _) _, by simp [go_sem], by simp [go_sem]⟩
  clear hvc hnn hn hl hB hb
  go_enter Try.func101, Try.ntmps101
  go_upto_region 1 with (fail)
  have HB1 : Hid (Below w.heap.size w (w.alloc (.cells #[.int .i64 glo, .int .i64 ghi] 25))) := Lib.hid HM.out.1
  have HC1 := Lib.hid HM.out.2
  obtain ⟨q, hq⟩ : ∃ q, q = w.heap.size := ⟨_, rfl⟩
  rw [← hq] at HC1
  simp only [← hq]
  clear hq HM
  generalize w.alloc (.cells #[.int .i64 glo, .int .i64 ghi] 25) = w1 at HB1 HC1 ⊢
  have k0 := HC1.out.1
  have k1 := HC1.out.2
  go_wp2_with fail
  go_loopw [9, 10, 11] (fun s1 s2 iv W => ∃ k : Nat, a ≤ k ∧ k ≤ b ∧ iv = .int .i64 (k : Int) ∧ s1 = .int .i64 (sumLo (between l a k)) ∧ s2 = .int .i64 (sumHi (between l a k)) ∧ Hid (Below w1.heap.size w1 W)) (fun _ _ iv _ => b - (intOf iv).toNat)
  case atStart => exact ⟨a, Nat.le_refl _, hab, rfl, by rw [between_self]; rfl, by rw [between_self]; rfl, Lib.hid (Below.refl _ _)⟩
  case round =>
    obtain ⟨k, hk1, hk2, rfl, rfl, rfl, hbr⟩ := hrel
    have HBR : Hid (Below w.heap.size w wr) := Lib.hid (HB1.out.trans (hbr.out.mono HB1.out.size))
    have r0 := hbr.out.on k0
    have r1 := hbr.out.on k1
    obtain ⟨x1, hx1⟩ : ∃ x, x = sumLo (between l a k) := ⟨_, rfl⟩
    obtain ⟨x2, hx2⟩ : ∃ x, x = sumHi (between l a k) := ⟨_, rfl⟩
    have hbd := between_bd HN.out.2.2.1 a k HN.out.2.1
    rw [← hx1, ← hx2] at hbd ⊢
    clear k0 k1
    by_cases hlt : k < b
    · have hkn : k < n := by omega
      have hkl : k < l.length := by have := HN.out.1; omega
      obtain ⟨vb, vo, rfl, hvb, hvs⟩ := HVC.out (spans_ne (by omega))
      obtain ⟨y1, hy1⟩ : ∃ y, y = l[k].1 := ⟨_, rfl⟩
      obtain ⟨y2, hy2⟩ : ∃ y, y = l[k].2 := ⟨_, rfl⟩
      have c1 : wr.cell? ⟨vb, vo + k * 2, none⟩ = some (.int .i64 y1) := by
        rw [HBR.out.cell (p := ⟨vb, vo + k * 2, none⟩) (Nat.lt_of_lt_of_le hvb HN.out.2.2.2), hy1]; exact hvs _ _ (spans_lo _ k hkl)
      have c2 : wr.cell? ⟨vb, vo + k * 2 + 1, none⟩ = some (.int .i64 y2) := by
        rw [HBR.out.cell (p := ⟨vb, vo + k * 2 + 1, none⟩) (Nat.lt_of_lt_of_le hvb HN.out.2.2.2), hy2]; exact hvs _ _ (spans_hi _ k hkl)
      have hys := HN.out.2.2.1 _ (List.getElem_mem hkl)
      rw [← hy1, ← hy2] at hys
      have e1 : IntKind.i64.wrap (x1 + y1) = x1 + y1 := IntWalk.i64_in _ (by omega)
      have e2 : IntKind.i64.wrap (x2 + y2) = x2 + y2 := IntWalk.i64_in _ (by omega)
      have HS : Hid (x1 + y1 = sumLo (between l a (k + 1)) ∧ x2 + y2 = sumHi (between l a (k + 1))) := Lib.hid ⟨by rw [between_succ l hk1 hkl, sumLo_snoc, hx1, hy1], by rw [between_succ l hk1 hkl, sumHi_snoc, hx2, hy2]⟩
      have k64 : k < 100 := by omega
      clear hkl hvb hvs hy1 hy2 hx1 hx2 hys hbd
      go_wp2
      go_roundw
      case rel => exact ⟨k + 1, by omega, by omega, by go_num, by rw [← HS.out.1], by rw [← HS.out.2], hbr⟩
      case measure => simp [intOf]; omega
    · obtain rfl : k = b := by omega
      have HF : Hid (fitsB l a k (glo, ghi) = (decide (x1 ≤ ghi) && decide (glo ≤ x2))) := Lib.hid (by unfold fitsB; rw [hx1, hx2])
      clear hx1 hx2 hbd
      by_cases h1 : x1 ≤ ghi
      · have d1 : decide (x1 ≤ ghi) = true := decide_eq_true h1
        obtain ⟨z, hz⟩ : ∃ z, z = decide (glo ≤ x2) := ⟨_, rfl⟩
        have d2 : decide (glo ≤ x2) = z := hz.symm
        have HF2 : Hid (fitsB l a k (glo, ghi) = z) := Lib.hid (by rw [HF.out, d1, Bool.true_and, hz])
        clear h1 hz
        go_wp2
        go_ret
        exact ⟨by rw [HF2.out]; rfl, HBR.out⟩
      · have d1 : decide (x1 ≤ ghi) = false := decide_eq_false h1
        have HF2 : Hid (fitsB l a k (glo, ghi) = false) := Lib.hid (by rw [HF.out, d1, Bool.false_and])
        clear h1
        go_wp2
        go_ret
        exact ⟨by rw [HF2.out]; rfl, HBR.out⟩
/-- span k is right -/
def okS (l : List (Int × Int)) (k : Nat) : Bool := rightS (l.getD k (0, 0)) 1 20000
theorem wrongS_no {l : List (Int × Int)} (h : ∀ x, x < l.length → okS l x = true) (h2 : Rd.wrongS l = true) : False := by
  unfold Rd.wrongS at h2
  rw [List.any_eq_true] at h2
  obtain ⟨s, hs, h3⟩ := h2
  obtain ⟨k, hk, rfl⟩ := List.mem_iff_getElem.1 hs
  have := h k hk
  unfold okS at this
  rw [List.getD_eq_getElem?_getD, List.getElem?_eq_getElem hk] at this
  rw [show (some l[k]).getD (0, 0) = l[k] from rfl] at this
  rw [this] at h3
  cases h3
theorem wrongS_yes {l : List (Int × Int)} {k : Nat} (hk : k < l.length) (h : okS l k = false) : Rd.wrongS l = true := by
  unfold Rd.wrongS
  rw [List.any_eq_true]
  refine ⟨l[k], List.getElem_mem hk, ?_⟩
  unfold okS at h
  rw [List.getD_eq_getElem?_getD, List.getElem?_eq_getElem hk] at h
  rw [show (some l[k]).getD (0, 0) = l[k] from rfl] at h
  rw [h]
  rfl
set_option maxRecDepth 20000 in
set_option maxHeartbeats 4000000 in
theorem rStones_any {B : Nat} {d : Rd} {rv fv mv : Value} {w : World} (hB : B ≤ w.heap.size) (hr : RS B w rv d.r.length (spans d.r)) (hf : RS B w fv d.f.length (spans d.f)) (hm : RS B w mv d.m.length (ints d.m)) (hl : d.f.length ≤ 1000) :
    Calls Try.prog 70 #[rv, fv, mv] w fun e w' => e = .returned (.int .i64 d.err) ∧ Below w.heap.size w w' := by
  obtain ⟨ra, rc, rfl, hrc⟩ := hr
  obtain ⟨fa, fc, rfl, hfc⟩ := hf
  obtain ⟨ma, mc, rfl, hmc⟩ := hm
  obtain ⟨nr, hnr⟩ : ∃ x, x = d.r.length := ⟨_, rfl⟩
  obtain ⟨nf, hnf⟩ : ∃ x, x = d.f.length := ⟨_, rfl⟩
  obtain ⟨nm, hnm⟩ : ∃ x, x = d.m.length := ⟨_, rfl⟩
  rw [← hnr, ← hnf, ← hnm]
  have HN := Lib.hid (And.intro hnr (And.intro hnf hnm))
  have HR := Lib.hid hrc
  have HF := Lib.hid hfc
  have HM := Lib.hid hmc
  have HBB := Lib.hid hB
  have nf1 : nf ≤ 1000 := by omega
  have wf1 : IntKind.i64.wrap ((nf : Int) + 1) = (nf : Int) + 1 := IntWalk.i64_in _ (by omega)
  clear hnr hnf hnm hrc hfc hmc hB hl
  by_cases h1 : nr < 1
  · have d1 : decide (nr < 1) = true := decide_eq_true (by omega)
    have d1' : decide ((nr : Int) < 1) = true := decide_eq_true (by omega)
    have HE : Hid (d.err = 3) := Lib.hid (by unfold Rd.err; rw [if_pos (.inl (inR_false (.inl (by have := HN.out; omega))))])
    go_enter Try.func70, Try.ntmps70
    go_wp2
    go_ret
    exact ⟨by rw [HE.out]; rfl, Below.refl _ _⟩
  · have d1 : decide (nr < 1) = false := decide_eq_false (by omega)
    have d1' : decide ((nr : Int) < 1) = false := decide_eq_false (by omega)
    by_cases h2 : 39 < nr
    · have d2 : decide (39 < nr) = true := decide_eq_true (by omega)
      have d2' : decide ((39 : Int) < (nr : Int)) = true := decide_eq_true (by omega)
      have HE : Hid (d.err = 3) := Lib.hid (by unfold Rd.err; rw [if_pos (.inl (inR_false (.inr (by have := HN.out; omega))))])
      go_enter Try.func70, Try.ntmps70
      go_wp2
      go_ret
      exact ⟨by rw [HE.out]; rfl, Below.refl _ _⟩
    · have d2 : decide (39 < nr) = false := decide_eq_false (by omega)
      have d2' : decide ((39 : Int) < (nr : Int)) = false := decide_eq_false (by omega)
      by_cases h3 : nm < 1
      · have d3 : decide (nm < 1) = true := decide_eq_true (by omega)
        have d3' : decide ((nm : Int) < 1) = true := decide_eq_true (by omega)
        have HE : Hid (d.err = 3) := Lib.hid (by unfold Rd.err; rw [if_pos (.inr (.inl (inR_false (.inl (by have := HN.out; omega)))))])
        go_enter Try.func70, Try.ntmps70
        go_wp2
        go_ret
        exact ⟨by rw [HE.out]; rfl, Below.refl _ _⟩
      · have d3 : decide (nm < 1) = false := decide_eq_false (by omega)
        have d3' : decide ((nm : Int) < 1) = false := decide_eq_false (by omega)
        by_cases h4 : 40 < nm
        · have d4 : decide (40 < nm) = true := decide_eq_true (by omega)
          have d4' : decide ((40 : Int) < (nm : Int)) = true := decide_eq_true (by omega)
          have HE : Hid (d.err = 3) := Lib.hid (by unfold Rd.err; rw [if_pos (.inr (.inl (inR_false (.inr (by have := HN.out; omega)))))])
          go_enter Try.func70, Try.ntmps70
          go_wp2
          go_ret
          exact ⟨by rw [HE.out]; rfl, Below.refl _ _⟩
        · have d4 : decide (40 < nm) = false := decide_eq_false (by omega)
          have d4' : decide ((40 : Int) < (nm : Int)) = false := decide_eq_false (by omega)
          by_cases h5 : nf + 1 ≠ nm
          · have d5 : ((nf : Int) + 1 != (nm : Int)) = true := by rw [bne_iff_ne]; omega
            have HE : Hid (d.err = 3) := Lib.hid (by unfold Rd.err; rw [if_pos (.inr (.inr (by have := HN.out; omega)))])
            go_enter Try.func70, Try.ntmps70
            go_wp2
            go_ret
            exact ⟨by rw [HE.out]; rfl, Below.refl _ _⟩
          · have d5 : ((nf : Int) + 1 != (nm : Int)) = false := by rw [show (nf : Int) + 1 = (nm : Int) by omega]; simp
            have HCT : Hid (¬ (inR (d.r.length : Int) 1 39 = false ∨ inR (d.m.length : Int) 1 40 = false ∨ (d.f.length : Int) ≠ (d.m.length : Int) - 1)) := Lib.hid (by
              have := HN.out
              rintro (h | h | h)
              · rw [inR_true (by omega) (by omega)] at h; cases h
              · rw [inR_true (by omega) (by omega)] at h; cases h
              · omega)
            have n39 : nr ≤ 39 := by omega
            have m40 : nm ≤ 40 := by omega
            have f39 : nf ≤ 39 := by omega
            clear h1 h2 h3 h4 h5
            go_enter Try.func70, Try.ntmps70
            go_wp2_with fail
            go_loopw [7] (fun iv W => ∃ k : Nat, k ≤ nr ∧ iv = .int .i64 (k : Int) ∧ Hid (Below w.heap.size w W) ∧ Hid (∀ x, x < k → okS d.r x = true)) (fun iv _ => nr - (intOf iv).toNat)
            case atStart => exact ⟨0, Nat.zero_le _, rfl, Lib.hid (Below.refl _ _), Lib.hid (by intro x hx; omega)⟩
            case round =>
              obtain ⟨k, hk, rfl, hbr, hin⟩ := hrel
              have HBR : Hid (Below w.heap.size w wr) := Lib.hid (hbr.out)
              by_cases hlt : k < nr
              · have k64 : k < 100 := by omega
                have hkl : k < d.r.length := by have := HN.out; omega
                obtain ⟨vb, vo, rfl, hvb, hvs⟩ := HR.out (spans_ne (by omega))
                obtain ⟨y1, hy1⟩ : ∃ y, y = (d.r[k]).1 := ⟨_, rfl⟩
                obtain ⟨y2, hy2⟩ : ∃ y, y = (d.r[k]).2 := ⟨_, rfl⟩
                have c1 : wr.cell? ⟨vb, vo + k * 2, none⟩ = some (.int .i64 y1) := by
                  rw [HBR.out.cell (p := ⟨vb, vo + k * 2, none⟩) (Nat.lt_of_lt_of_le hvb HBB.out), hy1]; exact hvs _ _ (spans_lo _ k hkl)
                have c2 : wr.cell? ⟨vb, vo + k * 2 + 1, none⟩ = some (.int .i64 y2) := by
                  rw [HBR.out.cell (p := ⟨vb, vo + k * 2 + 1, none⟩) (Nat.lt_of_lt_of_le hvb HBB.out), hy2]; exact hvs _ _ (spans_hi _ k hkl)
                have HK : Hid (rightS (y1, y2) 1 20000 = okS d.r k) := Lib.hid (by unfold okS; rw [List.getD_eq_getElem?_getD, List.getElem?_eq_getElem hkl, hy1, hy2]; rfl)
                clear hkl hvb hvs hy1 hy2
                go_wp2_with fail
                refine (wrong_any _ _ _ _ _).mono ?_
                rintro e w6 ⟨rfl, hb6⟩
                obtain ⟨z, hz⟩ : ∃ z, rightS (y1, y2) 1 20000 = z := ⟨_, rfl⟩
                rw [hz]
                have HZ : Hid (okS d.r k = z) := Lib.hid (by rw [← HK.out]; exact hz)
                have HB6 : Hid (Below w.heap.size w w6) := Lib.hid (hbr.out.trans (hb6.mono hbr.out.size))
                clear hz c1 c2 hb6
                cases z with
                | true =>
                  go_wp2
                  go_roundw
                  case rel =>
                    refine ⟨k + 1, by omega, by go_num, HB6, Lib.hid (fun x hx => ?_)⟩
                    by_cases e : x = k
                    · rw [e]; exact HZ.out
                    · exact hin.out x (by omega)
                  case measure => simp [intOf]; omega
                | false =>
                  have HE : Hid (d.err = 4) := Lib.hid (by unfold Rd.err; rw [if_neg HCT.out, if_pos (.inl (wrongS_yes (by have := HN.out; omega) HZ.out))])
                  have HB9 := HB6
                  go_wp2
                  go_ret
                  exact ⟨by rw [HE.out]; rfl, HB9.out⟩
              · have hkm : nr = k := by omega
                subst hkm
                obtain ⟨wg, rfl⟩ : ∃ x, x = wr := ⟨_, rfl⟩
                have HBG := HBR
                have HSR : Hid (∀ x, x < d.r.length → okS d.r x = true) := Lib.hid (fun x hx => hin.out x (by have := HN.out; omega))
                clear hin hbr HBR
                go_wp2_with fail
                go_loopw [8] (fun iv W => ∃ k : Nat, k ≤ nf ∧ iv = .int .i64 (k : Int) ∧ Hid (Below wg.heap.size wg W) ∧ Hid (∀ x, x < k → okS d.f x = true)) (fun iv _ => nf - (intOf iv).toNat)
                case atStart => exact ⟨0, Nat.zero_le _, rfl, Lib.hid (Below.refl _ _), Lib.hid (by intro x hx; omega)⟩
                case round =>
                  obtain ⟨k, hk, rfl, hbr, hin⟩ := hrel
                  have HBR : Hid (Below w.heap.size w wr) := Lib.hid (HBG.out.trans (hbr.out.mono HBG.out.size))
                  by_cases hlt : k < nf
                  · have k64 : k < 100 := by omega
                    have hkl : k < d.f.length := by have := HN.out; omega
                    obtain ⟨vb, vo, rfl, hvb, hvs⟩ := HF.out (spans_ne (by omega))
                    obtain ⟨y1, hy1⟩ : ∃ y, y = (d.f[k]).1 := ⟨_, rfl⟩
                    obtain ⟨y2, hy2⟩ : ∃ y, y = (d.f[k]).2 := ⟨_, rfl⟩
                    have c1 : wr.cell? ⟨vb, vo + k * 2, none⟩ = some (.int .i64 y1) := by
                      rw [HBR.out.cell (p := ⟨vb, vo + k * 2, none⟩) (Nat.lt_of_lt_of_le hvb HBB.out), hy1]; exact hvs _ _ (spans_lo _ k hkl)
                    have c2 : wr.cell? ⟨vb, vo + k * 2 + 1, none⟩ = some (.int .i64 y2) := by
                      rw [HBR.out.cell (p := ⟨vb, vo + k * 2 + 1, none⟩) (Nat.lt_of_lt_of_le hvb HBB.out), hy2]; exact hvs _ _ (spans_hi _ k hkl)
                    have HK : Hid (rightS (y1, y2) 1 20000 = okS d.f k) := Lib.hid (by unfold okS; rw [List.getD_eq_getElem?_getD, List.getElem?_eq_getElem hkl, hy1, hy2]; rfl)
                    clear hkl hvb hvs hy1 hy2
                    go_wp2_with fail
                    refine (wrong_any _ _ _ _ _).mono ?_
                    rintro e w6 ⟨rfl, hb6⟩
                    obtain ⟨z, hz⟩ : ∃ z, rightS (y1, y2) 1 20000 = z := ⟨_, rfl⟩
                    rw [hz]
                    have HZ : Hid (okS d.f k = z) := Lib.hid (by rw [← HK.out]; exact hz)
                    have HB6 : Hid (Below wg.heap.size wg w6) := Lib.hid (hbr.out.trans (hb6.mono hbr.out.size))
                    clear hz c1 c2 hb6
                    cases z with
                    | true =>
                      go_wp2
                      go_roundw
                      case rel =>
                        refine ⟨k + 1, by omega, by go_num, HB6, Lib.hid (fun x hx => ?_)⟩
                        by_cases e : x = k
                        · rw [e]; exact HZ.out
                        · exact hin.out x (by omega)
                      case measure => simp [intOf]; omega
                    | false =>
                      have HE : Hid (d.err = 4) := Lib.hid (by unfold Rd.err; rw [if_neg HCT.out, if_pos (.inr (.inl (wrongS_yes (by have := HN.out; omega) HZ.out)))])
                      have HB9 := HB6
                      go_wp2
                      go_ret
                      exact ⟨by rw [HE.out]; rfl, HBG.out.trans (HB9.out.mono HBG.out.size)⟩
                  · have hkm : nf = k := by omega
                    subst hkm
                    obtain ⟨wf, rfl⟩ : ∃ x, x = wr := ⟨_, rfl⟩
                    have HBF := HBR
                    have HSF : Hid (∀ x, x < d.f.length → okS d.f x = true) := Lib.hid (fun x hx => hin.out x (by have := HN.out; omega))
                    clear hin hbr HBR
                    go_wp2_with fail
                    go_loopw [9] (fun iv W => ∃ k : Nat, k ≤ nm ∧ iv = .int .i64 (k : Int) ∧ Hid (Below wf.heap.size wf W) ∧ Hid (∀ x, x < k → inR (d.m.getD x 0) (-1) (nr : Int) = true)) (fun iv _ => nm - (intOf iv).toNat)
                    case atStart => exact ⟨0, Nat.zero_le _, rfl, Lib.hid (Below.refl _ _), Lib.hid (by intro x hx; omega)⟩
                    case round =>
                      obtain ⟨k, hk, rfl, hbr, hin⟩ := hrel
                      have HBR : Hid (Below w.heap.size w wr) := Lib.hid (HBF.out.trans (hbr.out.mono HBF.out.size))
                      by_cases hlt : k < nm
                      · have k64 : k < 100 := by omega
                        have hkl : k < d.m.length := by have := HN.out; omega
                        obtain ⟨vb, vo, rfl, hvb, hvs⟩ := HM.out (ints_ne (by omega))
                        obtain ⟨y, hy⟩ : ∃ y, y = d.m.getD k 0 := ⟨_, rfl⟩
                        have c1 : wr.cell? ⟨vb, vo + k, none⟩ = some (.int .i64 y) := by
                          have h1 := hvs k _ (ints_at' d.m k hkl)
                          rw [← List.getD_eq_getElem?_getD] at h1
                          rw [HBR.out.cell (p := ⟨vb, vo + k, none⟩) (Nat.lt_of_lt_of_le hvb HBB.out), hy, h1]
                        have HK := Lib.hid hy
                        clear hkl hvb hvs hy
                        go_wp2_with fail
                        refine (outside_any _ _ _ _).mono ?_
                        rintro e w6 ⟨rfl, rfl⟩
                        obtain ⟨z, hz⟩ : ∃ z, inR y (-1) (nr : Int) = z := ⟨_, rfl⟩
                        rw [hz]
                        have HZ : Hid (inR (d.m.getD k 0) (-1) (nr : Int) = z) := Lib.hid (by rw [← HK.out]; exact hz)
                        clear hz c1
                        cases z with
                        | true =>
                          go_wp2
                          go_roundw
                          case rel =>
                            refine ⟨k + 1, by omega, by go_num, hbr, Lib.hid (fun x hx => ?_)⟩
                            by_cases e : x = k
                            · rw [e]; exact HZ.out
                            · exact hin.out x (by omega)
                          case measure => simp [intOf]; omega
                        | false =>
                          have HE : Hid (d.err = 4) := Lib.hid (by unfold Rd.err; rw [if_neg HCT.out, if_pos (.inr (.inr (by rw [List.any_eq_true]; have hkl : k < d.m.length := (by have := HN.out; omega); refine ⟨d.m[k], List.getElem_mem hkl, ?_⟩; have h2 := HZ.out; rw [List.getD_eq_getElem?_getD, List.getElem?_eq_getElem hkl] at h2; rw [show (some (d.m[k])).getD (0 : Int) = d.m[k] from rfl, HN.out.1] at h2; rw [h2]; rfl)))])
                          have HB9 := hbr
                          go_wp2
                          go_ret
                          exact ⟨by rw [HE.out]; rfl, HBR.out⟩
                      · have hkm : nm = k := by omega
                        subst hkm
                        have HOK : Hid (d.err = 0) := Lib.hid (by
                          unfold Rd.err
                          rw [if_neg HCT.out, if_neg]
                          rintro (h | h | h)
                          · exact wrongS_no HSR.out h
                          · exact wrongS_no HSF.out h
                          · rw [List.any_eq_true] at h
                            obtain ⟨x, hx, h2⟩ := h
                            obtain ⟨k, hk, rfl⟩ := List.mem_iff_getElem.1 hx
                            have := hin.out k (by have := HN.out; omega)
                            rw [List.getD_eq_getElem?_getD, List.getElem?_eq_getElem hk] at this
                            rw [show (some (d.m[k])).getD (0 : Int) = d.m[k] from rfl] at this
                            rw [← HN.out.1, this] at h2
                            cases h2)
                        go_wp2
                        go_ret
                        exact ⟨by rw [HOK.out]; rfl, HBR.out⟩
end Go.Proofs.Ytobmhamdkngehaa
