/-
  Parts of the proof, in the order in which they build: RpC.
-/
import Derived.Test.YtobmhamdkngehaaA21
set_option linter.unusedVariables false
set_option linter.unusedSimpArgs false
namespace Go.Proofs.Ytobmhamdkngehaa
open Go.RowKit Go.Shelf
open Lim

/-- the first k places are right -/
def valTo (p : Pf) (k : Nat) : Bool := (List.range k).all fun j => inR (p.a j) 0 20000 && rightS (p.g j) 0 1000000
theorem valTo_succ (p : Pf) (k : Nat) : valTo p (k + 1) = (valTo p k && (inR (p.a k) 0 20000 && rightS (p.g k) 0 1000000)) := by
  unfold valTo
  rw [List.range_succ, List.all_append]
  simp
theorem value_to {p : Pf} (h : p.gr.length = p.ats.length) : p.value = ((inR p.tall 0 2000 && rightS (p.lo, p.hi) 0 1000) && valTo p p.ats.length) := by
  have h1 := all_at p.ats (fun x => inR x 0 20000)
  have h2 := all_sp p.gr (fun s => rightS s 0 1000000)
  unfold Pf.value
  rw [← h1, ← h2, h]
  unfold valTo
  have h3 : ((List.range p.ats.length).all fun j => inR (p.a j) 0 20000 && rightS (p.g j) 0 1000000) = (((List.range p.ats.length).all fun k => inR (p.ats.getD k 0) 0 20000) && ((List.range p.ats.length).all fun k => rightS (p.gr.getD k (0, 0)) 0 1000000)) := by
    rw [Bool.eq_iff_iff, Bool.and_eq_true, List.all_eq_true, List.all_eq_true, List.all_eq_true]
    refine ⟨fun h => ⟨fun k hk => ((Bool.and_eq_true _ _).mp (h k hk)).1, fun k hk => ((Bool.and_eq_true _ _).mp (h k hk)).2⟩, fun h k hk => (Bool.and_eq_true _ _).mpr ⟨h.1 k hk, h.2 k hk⟩⟩
  rw [h3]
  ac_rfl
set_option maxRecDepth 20000 in
set_option maxHeartbeats 2000000 in
theorem rCheck_any {B : Nat} {p : Pf} {av gv : Value} {w : World} (hB : B ≤ w.heap.size) (ha : RS B w av p.ats.length (ints p.ats)) (hg : RS B w gv p.gr.length (spans p.gr)) :
    Calls Try.prog 47 #[.agg #[av, gv, .int .i64 p.tall, .int .i64 p.lo, .int .i64 p.hi]] w fun e w' => e = .returned (.int .i64 p.err) ∧ Below w.heap.size w w' := by
  obtain ⟨a, ac, rfl, hac⟩ := ha
  obtain ⟨g, gc, rfl, hgc⟩ := hg
  have HAC := Lib.hid hac
  have HGC := Lib.hid hgc
  obtain ⟨tl, htl⟩ : ∃ x, x = p.tall := ⟨_, rfl⟩
  obtain ⟨lo, hlo⟩ : ∃ x, x = p.lo := ⟨_, rfl⟩
  obtain ⟨hi, hhi⟩ : ∃ x, x = p.hi := ⟨_, rfl⟩
  rw [← htl, ← hlo, ← hhi]
  have HT := Lib.hid (And.intro htl (And.intro hlo hhi))
  have HW1 : Hid (Below w.heap.size w (w.alloc (.cells #[.slice a p.ats.length ac, .slice g p.gr.length gc, .int .i64 tl, .int .i64 lo, .int .i64 hi] 35))) := Lib.hid ((Below.refl _ w).alloc (Nat.le_refl _) _)
  have HM : Hid ((w.alloc (.cells #[.slice a p.ats.length ac, .slice g p.gr.length gc, .int .i64 tl, .int .i64 lo, .int .i64 hi] 35)).cell? ⟨w.heap.size, 0, none⟩ = some (.slice a p.ats.length ac) ∧ (w.alloc (.cells #[.slice a p.ats.length ac, .slice g p.gr.length gc, .int .i64 tl, .int .i64 lo, .int .i64 hi] 35)).cell? ⟨w.heap.size, 1, none⟩ = some (.slice g p.gr.length gc) ∧ (w.alloc (.cells #[.slice a p.ats.length ac, .slice g p.gr.length gc, .int .i64 tl, .int .i64 lo, .int .i64 hi] 35)).cell? ⟨w.heap.size, 2, none⟩ = some (.int .i64 tl) ∧ (w.alloc (.cells #[.slice a p.ats.length ac, .slice g p.gr.length gc, .int .i64 tl, .int .i64 lo, .int .i64 hi] 35)).cell? ⟨w.heap.size, 3, none⟩ = some (.int .i64 lo) ∧ (w.alloc (.cells #[.slice a p.ats.length ac, .slice g p.gr.length gc, .int .i64 tl, .int .i64 lo, .int .i64 hi] 35)).cell? ⟨w.heap.size, 4, none⟩ = some (.int .i64 hi)) := Lib.hid ⟨by simp [go_sem], by simp [go_sem], by simp [go_sem], by simp [go_sem], by simp [go_sem]⟩
  have HBw := Lib.hid hB
  clear hac hgc htl hlo hhi hB
  go_enter Try.func47, Try.ntmps47
  go_upto_region 1 with (fail)
  obtain ⟨q, hq⟩ : ∃ q, q = w.heap.size := ⟨_, rfl⟩
  rw [← hq] at HM
  simp only [← hq]
  clear hq
  generalize w.alloc (.cells #[.slice a p.ats.length ac, .slice g p.gr.length gc, .int .i64 tl, .int .i64 lo, .int .i64 hi] 35) = w1 at HM HW1 ⊢
  obtain ⟨k0, k1, k2, k3, k4⟩ := HM.out
  clear HM
  by_cases h1 : p.ats.length < 2
  · have HCF : Hid (p.count = false) := Lib.hid (by unfold Pf.count; rw [inR_false (.inl (by omega)), Bool.false_and])
    have d1 : decide ((p.ats.length : Int) < 2) = true := decide_eq_true (by omega)
    have d2 : decide (p.ats.length < 2) = true := decide_eq_true h1
    have HE : Hid (p.err = 3) := Lib.hid (by unfold Pf.err; rw [if_pos HCF.out])
    go_wp2
    go_ret
    exact ⟨by rw [HE.out]; rfl, HW1.out⟩
  · have d1 : decide ((p.ats.length : Int) < 2) = false := decide_eq_false (by omega)
    have d2 : decide (p.ats.length < 2) = false := decide_eq_false h1
    by_cases h2 : 40 < p.ats.length
    · have HCF : Hid (p.count = false) := Lib.hid (by unfold Pf.count; rw [inR_false (.inr (by omega)), Bool.false_and])
      have d3 : decide ((40 : Int) < (p.ats.length : Int)) = true := decide_eq_true (by omega)
      have d4 : decide (40 < p.ats.length) = true := decide_eq_true h2
      have HE : Hid (p.err = 3) := Lib.hid (by unfold Pf.err; rw [if_pos HCF.out])
      go_wp2
      go_ret
      exact ⟨by rw [HE.out]; rfl, HW1.out⟩
    · have d3 : decide ((40 : Int) < (p.ats.length : Int)) = false := decide_eq_false (by omega)
      have d4 : decide (40 < p.ats.length) = false := decide_eq_false h2
      by_cases h3 : p.gr.length = p.ats.length
      · have d5 : ((p.gr.length : Int) != (p.ats.length : Int)) = false := by rw [h3]; simp
        have HC : Hid (p.count = true) := Lib.hid (by unfold Pf.count; rw [inR_true (by omega) (by omega), decide_eq_true h3]; rfl)
        have HN : Hid (p.gr.length = p.ats.length ∧ 2 ≤ p.ats.length ∧ p.ats.length ≤ 40) := Lib.hid ⟨h3, by omega, by omega⟩
        obtain ⟨ab, ao, rfl, hlt, hcs⟩ := HAC.out (ints_ne (by omega))
        obtain ⟨gb, go, rfl, hlg, hgs⟩ := HGC.out (spans_ne (by omega))
        have HA : Hid (∀ W, Below w.heap.size w W → ∀ i, i < p.ats.length → W.cell? ⟨ab, ao + i, none⟩ = some (.int .i64 (p.a i))) := Lib.hid fun W hW i hi => by
          rw [hW.cell (p := ⟨ab, ao + i, none⟩) (Nat.lt_of_lt_of_le hlt HBw.out), hcs i _ (ints_at' p.ats i hi), ← List.getD_eq_getElem?_getD]
          rfl
        have HG : Hid (∀ W, Below w.heap.size w W → ∀ i, i < p.gr.length → W.cell? ⟨gb, go + i * 2, none⟩ = some (.int .i64 (p.g i).1) ∧ W.cell? ⟨gb, go + i * 2 + 1, none⟩ = some (.int .i64 (p.g i).2)) := Lib.hid fun W hW i hi => by
          have e : p.g i = p.gr[i] := by unfold Pf.g; rw [List.getD_eq_getElem?_getD, List.getElem?_eq_getElem hi]; rfl
          rw [hW.cell (p := ⟨gb, go + i * 2, none⟩) (Nat.lt_of_lt_of_le hlg HBw.out), hW.cell (p := ⟨gb, go + i * 2 + 1, none⟩) (Nat.lt_of_lt_of_le hlg HBw.out), e]
          exact ⟨hgs _ _ (spans_lo _ i hi), hgs _ _ (spans_hi _ i hi)⟩
        have HV : Hid (p.value = ((inR tl 0 2000 && rightS (lo, hi) 0 1000) && valTo p p.ats.length)) := Lib.hid (by rw [value_to h3, HT.out.1, HT.out.2.1, HT.out.2.2])
        clear hlt hcs hlg hgs HAC HGC h1 h2 h3
        go_wp2_with fail
        refine (outside_any _ _ _ _).mono ?_
        rintro e w' ⟨rfl, rfl⟩
        obtain ⟨z1, hz1⟩ : ∃ z, z = inR tl 0 2000 := ⟨_, rfl⟩
        rw [← hz1] at HV ⊢
        clear hz1
        cases z1 with
        | false =>
          obtain ⟨h0, hh0⟩ : ∃ h, h = (false && rightS (lo, hi) 0 1000) := ⟨_, rfl⟩
          rw [← hh0] at HV
          have HH0 : Hid (h0 = false) := Lib.hid (by rw [hh0, Bool.false_and])
          have HWX := HW1
          clear hh0
          clear k2 k3 k4
          go_wp2_with fail
          go_loopw [3, 4] (fun bv i wr => ∃ k : Nat, k ≤ p.ats.length ∧ i = .int .i64 k ∧ bv = .bool (!(h0 && valTo p k)) ∧ Hid (Below w1.heap.size w1 wr)) (fun _ i _ => p.ats.length - (intOf i).toNat)
          case atStart => exact ⟨0, Nat.zero_le _, rfl, by rw [HH0.out]; rfl, Lib.hid (Below.refl _ _)⟩
          case round =>
            obtain ⟨k, hk, rfl, rfl, hbr⟩ := hrel
            have kr0 := hbr.out.on k0
            have kr1 := hbr.out.on k1
            clear k0 k1
            have HBR : Hid (Below w.heap.size w wr) := Lib.hid (HWX.out.trans (hbr.out.mono HWX.out.size))
            by_cases hlt : k < p.ats.length
            · have k64 : k < 100 := by have := HN.out; omega
              have hlg : k < p.gr.length := by rw [HN.out.1]; exact hlt
              have HSU : Hid (valTo p (k + 1) = (valTo p k && (inR (p.a k) 0 20000 && rightS (p.g k) 0 1000000))) := Lib.hid (valTo_succ p k)
              obtain ⟨vk, hvk⟩ : ∃ v, v = valTo p k := ⟨_, rfl⟩
              rw [← hvk] at HSU ⊢
              clear hvk
              obtain ⟨z, hz⟩ : ∃ z, z = (h0 && vk) := ⟨_, rfl⟩
              rw [← hz]
              have HZ := Lib.hid hz
              clear hz
              cases z with
              | false =>
                go_wp2
                go_roundw
                case rel =>
                  refine ⟨k + 1, by omega, by go_num, ?_, hbr⟩
                  rw [HSU.out, ← Bool.and_assoc, ← HZ.out, Bool.false_and]
                  rfl
                case measure => simp [intOf]; omega
              | true =>
                obtain ⟨x, hx⟩ : ∃ x, x = p.a k := ⟨_, rfl⟩
                obtain ⟨y1, hy1⟩ : ∃ y, y = (p.g k).1 := ⟨_, rfl⟩
                obtain ⟨y2, hy2⟩ : ∃ y, y = (p.g k).2 := ⟨_, rfl⟩
                have d0 : wr.cell? ⟨ab, ao + k, none⟩ = some (.int .i64 x) := by rw [hx]; exact HA.out wr HBR.out k hlt
                have d1 : wr.cell? ⟨gb, go + k * 2, none⟩ = some (.int .i64 y1) := by rw [hy1]; exact (HG.out wr HBR.out k hlg).1
                have d2 : wr.cell? ⟨gb, go + k * 2 + 1, none⟩ = some (.int .i64 y2) := by rw [hy2]; exact (HG.out wr HBR.out k hlg).2
                have HXY : Hid (valTo p (k + 1) = (vk && (inR x 0 20000 && rightS (y1, y2) 0 1000000))) := Lib.hid (by rw [HSU.out, hx, hy1, hy2])
                clear hx hy1 hy2 HSU
                go_wp2_with fail
                refine (outside_any _ _ _ _).mono ?_
                rintro e w' ⟨rfl, rfl⟩
                obtain ⟨zo, hzo⟩ : ∃ z, z = inR x 0 20000 := ⟨_, rfl⟩
                rw [← hzo] at HXY ⊢
                clear hzo
                cases zo with
                | false =>
                  go_wp2
                  go_roundw
                  case rel =>
                    refine ⟨k + 1, by omega, by go_num, ?_, hbr⟩
                    rw [HXY.out, Bool.false_and, Bool.and_false, Bool.and_false]
                    rfl
                  case measure => simp [intOf]; omega
                | true =>
                  go_wp2_with fail
                  refine (wrong_any _ _ _ _ _).mono ?_
                  rintro e w' ⟨rfl, hb2⟩
                  obtain ⟨zw, hzw⟩ : ∃ z, z = rightS (y1, y2) 0 1000000 := ⟨_, rfl⟩
                  rw [← hzw] at HXY ⊢
                  clear hzw
                  have HB2 : Hid (Below w1.heap.size w1 w') := Lib.hid (hbr.out.trans (hb2.mono hbr.out.size))
                  clear hb2
                  go_wp2
                  go_roundw
                  case rel =>
                    refine ⟨k + 1, by omega, by go_num, ?_, HB2⟩
                    rw [HXY.out, Bool.true_and, ← Bool.and_assoc, ← HZ.out, Bool.true_and]
                  case measure => simp [intOf]; omega
            · obtain rfl : k = p.ats.length := by omega
              obtain ⟨z, hz⟩ : ∃ z, z = !(h0 && valTo p p.ats.length) := ⟨_, rfl⟩
              have hvz : Hid ((h0 && valTo p p.ats.length) = !z) := Lib.hid (by rw [hz, Bool.not_not])
              rw [← hz]
              clear hz
              cases z with
              | true =>
                have HE : Hid (p.err = 4) := Lib.hid (by unfold Pf.err; rw [HC.out, HV.out, hvz.out]; rfl)
                go_wp2
                go_ret
                exact ⟨by rw [HE.out]; rfl, HBR.out⟩
              | false =>
                have hval : Hid ((h0 && valTo p p.ats.length) = true) := Lib.hid (by rw [hvz.out]; rfl)
                obtain ⟨wo, rfl⟩ : ∃ x, x = wr := ⟨_, rfl⟩
                have HVT : Hid (p.value = true) := Lib.hid (by rw [HV.out]; exact hval.out)
                have HE : Hid (p.err = if p.order = false then 5 else 0) := Lib.hid (by unfold Pf.err; rw [HC.out, HVT.out]; rfl)
                go_wp2_with fail
                go_loopw [5] (fun i W => ∃ m : Nat, m + 1 ≤ p.ats.length ∧ i = .int .i64 ((m : Int) + 1) ∧ Hid (Below wo.heap.size wo W) ∧ Hid (∀ j, j < m → p.a j < p.a (j + 1))) (fun i _ => p.ats.length + 1 - (intOf i).toNat)
                case atStart => exact ⟨0, by have := HN.out; omega, rfl, Lib.hid (Below.refl _ _), Lib.hid (by intro j hj; omega)⟩
                case round =>
                  obtain ⟨m, hm, rfl, hbs, hno⟩ := hrel
                  have c0 := hbs.out.on kr0
                  clear kr0 kr1
                  have HBs : Hid (Below w.heap.size w wr) := Lib.hid (HBR.out.trans (hbs.out.mono HBR.out.size))
                  by_cases hlt : m + 1 < p.ats.length
                  · obtain ⟨y0, hy0⟩ : ∃ y, y = p.a m := ⟨_, rfl⟩
                    obtain ⟨y1, hy1⟩ : ∃ y, y = p.a (m + 1) := ⟨_, rfl⟩
                    have d0 : wr.cell? ⟨ab, ao + m, none⟩ = some (.int .i64 y0) := by rw [hy0]; exact HA.out wr HBs.out m (by omega)
                    have d1 : wr.cell? ⟨ab, ao + (m + 1), none⟩ = some (.int .i64 y1) := by rw [hy1]; exact HA.out wr HBs.out (m + 1) hlt
                    have hm64 : m + 1 < 100 := by have := HN.out; omega
                    have HY := Lib.hid (And.intro hy0 hy1)
                    clear hy0 hy1
                    by_cases hle : y1 ≤ y0
                    · have e1 : Hid (p.err = 5) := Lib.hid (by
                        rw [HE.out, if_pos]
                        rw [Bool.eq_false_iff]
                        intro h
                        have := decide_eq_true_iff.1 ((List.all_eq_true.1 h) m (List.mem_range.2 (by omega)))
                        rw [← HY.out.1, ← HY.out.2] at this
                        omega)
                      have hd : decide (y1 ≤ y0) = true := decide_eq_true hle
                      go_wp2_with fail
                      go_quiet (fail)
                      go_wp2
                      go_ret
                      exact ⟨by rw [e1.out]; rfl, below_drewN HBs.out _⟩
                    · have hd : decide (y1 ≤ y0) = false := decide_eq_false hle
                      go_wp2_with fail
                      go_quiet (fail)
                      go_wp2
                      go_roundw
                      case rel =>
                        refine ⟨m + 1, by omega, by go_num, Lib.hid (below_drewN hbs.out _), Lib.hid (fun j hj => ?_)⟩
                        by_cases e : j = m
                        · rw [e, ← HY.out.1, ← HY.out.2]; omega
                        · exact hno.out j (by omega)
                      case measure => simp [intOf]; omega
                  · have hm1 : m = p.ats.length - 1 := by omega
                    have e1 : Hid (p.err = 0) := Lib.hid (by
                      rw [HE.out, if_neg]
                      rw [Bool.not_eq_false, Pf.order, List.all_eq_true]
                      intro j hj
                      rw [decide_eq_true_iff]
                      exact hno.out j (by rw [hm1]; exact List.mem_range.1 hj))
                    go_wp2
                    go_ret
                    exact ⟨by rw [e1.out]; rfl, HBs.out⟩
        | true =>
          go_wp2_with fail
          refine (wrong_any _ _ _ _ _).mono ?_
          rintro e w2 ⟨rfl, hb2⟩
          obtain ⟨h0, hh0⟩ : ∃ h, h = (true && rightS (lo, hi) 0 1000) := ⟨_, rfl⟩
          rw [← hh0] at HV
          have HH0 : Hid (rightS (lo, hi) 0 1000 = h0) := Lib.hid (by rw [hh0, Bool.true_and])
          rw [HH0.out]
          replace k0 := hb2.on k0
          replace k1 := hb2.on k1
          have HWX : Hid (Below w.heap.size w w2) := Lib.hid (HW1.out.trans (hb2.mono HW1.out.size))
          clear hh0 hb2
          clear k2 k3 k4
          go_wp2_with fail
          go_loopw [3, 4] (fun bv i wr => ∃ k : Nat, k ≤ p.ats.length ∧ i = .int .i64 k ∧ bv = .bool (!(h0 && valTo p k)) ∧ Hid (Below w2.heap.size w2 wr)) (fun _ i _ => p.ats.length - (intOf i).toNat)
          case atStart => exact ⟨0, Nat.zero_le _, rfl, by rw [show valTo p 0 = true from rfl, Bool.and_true], Lib.hid (Below.refl _ _)⟩
          case round =>
            obtain ⟨k, hk, rfl, rfl, hbr⟩ := hrel
            have kr0 := hbr.out.on k0
            have kr1 := hbr.out.on k1
            clear k0 k1
            have HBR : Hid (Below w.heap.size w wr) := Lib.hid (HWX.out.trans (hbr.out.mono HWX.out.size))
            by_cases hlt : k < p.ats.length
            · have k64 : k < 100 := by have := HN.out; omega
              have hlg : k < p.gr.length := by rw [HN.out.1]; exact hlt
              have HSU : Hid (valTo p (k + 1) = (valTo p k && (inR (p.a k) 0 20000 && rightS (p.g k) 0 1000000))) := Lib.hid (valTo_succ p k)
              obtain ⟨vk, hvk⟩ : ∃ v, v = valTo p k := ⟨_, rfl⟩
              rw [← hvk] at HSU ⊢
              clear hvk
              obtain ⟨z, hz⟩ : ∃ z, z = (h0 && vk) := ⟨_, rfl⟩
              rw [← hz]
              have HZ := Lib.hid hz
              clear hz
              cases z with
              | false =>
                go_wp2
                go_roundw
                case rel =>
                  refine ⟨k + 1, by omega, by go_num, ?_, hbr⟩
                  rw [HSU.out, ← Bool.and_assoc, ← HZ.out, Bool.false_and]
                  rfl
                case measure => simp [intOf]; omega
              | true =>
                obtain ⟨x, hx⟩ : ∃ x, x = p.a k := ⟨_, rfl⟩
                obtain ⟨y1, hy1⟩ : ∃ y, y = (p.g k).1 := ⟨_, rfl⟩
                obtain ⟨y2, hy2⟩ : ∃ y, y = (p.g k).2 := ⟨_, rfl⟩
                have d0 : wr.cell? ⟨ab, ao + k, none⟩ = some (.int .i64 x) := by rw [hx]; exact HA.out wr HBR.out k hlt
                have d1 : wr.cell? ⟨gb, go + k * 2, none⟩ = some (.int .i64 y1) := by rw [hy1]; exact (HG.out wr HBR.out k hlg).1
                have d2 : wr.cell? ⟨gb, go + k * 2 + 1, none⟩ = some (.int .i64 y2) := by rw [hy2]; exact (HG.out wr HBR.out k hlg).2
                have HXY : Hid (valTo p (k + 1) = (vk && (inR x 0 20000 && rightS (y1, y2) 0 1000000))) := Lib.hid (by rw [HSU.out, hx, hy1, hy2])
                clear hx hy1 hy2 HSU
                go_wp2_with fail
                refine (outside_any _ _ _ _).mono ?_
                rintro e w' ⟨rfl, rfl⟩
                obtain ⟨zo, hzo⟩ : ∃ z, z = inR x 0 20000 := ⟨_, rfl⟩
                rw [← hzo] at HXY ⊢
                clear hzo
                cases zo with
                | false =>
                  go_wp2
                  go_roundw
                  case rel =>
                    refine ⟨k + 1, by omega, by go_num, ?_, hbr⟩
                    rw [HXY.out, Bool.false_and, Bool.and_false, Bool.and_false]
                    rfl
                  case measure => simp [intOf]; omega
                | true =>
                  go_wp2_with fail
                  refine (wrong_any _ _ _ _ _).mono ?_
                  rintro e w' ⟨rfl, hb2⟩
                  obtain ⟨zw, hzw⟩ : ∃ z, z = rightS (y1, y2) 0 1000000 := ⟨_, rfl⟩
                  rw [← hzw] at HXY ⊢
                  clear hzw
                  have HB2 : Hid (Below w2.heap.size w2 w') := Lib.hid (hbr.out.trans (hb2.mono hbr.out.size))
                  clear hb2
                  go_wp2
                  go_roundw
                  case rel =>
                    refine ⟨k + 1, by omega, by go_num, ?_, HB2⟩
                    rw [HXY.out, Bool.true_and, ← Bool.and_assoc, ← HZ.out, Bool.true_and]
                  case measure => simp [intOf]; omega
            · obtain rfl : k = p.ats.length := by omega
              obtain ⟨z, hz⟩ : ∃ z, z = !(h0 && valTo p p.ats.length) := ⟨_, rfl⟩
              have hvz : Hid ((h0 && valTo p p.ats.length) = !z) := Lib.hid (by rw [hz, Bool.not_not])
              rw [← hz]
              clear hz
              cases z with
              | true =>
                have HE : Hid (p.err = 4) := Lib.hid (by unfold Pf.err; rw [HC.out, HV.out, hvz.out]; rfl)
                go_wp2
                go_ret
                exact ⟨by rw [HE.out]; rfl, HBR.out⟩
              | false =>
                have hval : Hid ((h0 && valTo p p.ats.length) = true) := Lib.hid (by rw [hvz.out]; rfl)
                obtain ⟨wo, rfl⟩ : ∃ x, x = wr := ⟨_, rfl⟩
                have HVT : Hid (p.value = true) := Lib.hid (by rw [HV.out]; exact hval.out)
                have HE : Hid (p.err = if p.order = false then 5 else 0) := Lib.hid (by unfold Pf.err; rw [HC.out, HVT.out]; rfl)
                go_wp2_with fail
                go_loopw [5] (fun i W => ∃ m : Nat, m + 1 ≤ p.ats.length ∧ i = .int .i64 ((m : Int) + 1) ∧ Hid (Below wo.heap.size wo W) ∧ Hid (∀ j, j < m → p.a j < p.a (j + 1))) (fun i _ => p.ats.length + 1 - (intOf i).toNat)
                case atStart => exact ⟨0, by have := HN.out; omega, rfl, Lib.hid (Below.refl _ _), Lib.hid (by intro j hj; omega)⟩
                case round =>
                  obtain ⟨m, hm, rfl, hbs, hno⟩ := hrel
                  have c0 := hbs.out.on kr0
                  clear kr0 kr1
                  have HBs : Hid (Below w.heap.size w wr) := Lib.hid (HBR.out.trans (hbs.out.mono HBR.out.size))
                  by_cases hlt : m + 1 < p.ats.length
                  · obtain ⟨y0, hy0⟩ : ∃ y, y = p.a m := ⟨_, rfl⟩
                    obtain ⟨y1, hy1⟩ : ∃ y, y = p.a (m + 1) := ⟨_, rfl⟩
                    have d0 : wr.cell? ⟨ab, ao + m, none⟩ = some (.int .i64 y0) := by rw [hy0]; exact HA.out wr HBs.out m (by omega)
                    have d1 : wr.cell? ⟨ab, ao + (m + 1), none⟩ = some (.int .i64 y1) := by rw [hy1]; exact HA.out wr HBs.out (m + 1) hlt
                    have hm64 : m + 1 < 100 := by have := HN.out; omega
                    have HY := Lib.hid (And.intro hy0 hy1)
                    clear hy0 hy1
                    by_cases hle : y1 ≤ y0
                    · have e1 : Hid (p.err = 5) := Lib.hid (by
                        rw [HE.out, if_pos]
                        rw [Bool.eq_false_iff]
                        intro h
                        have := decide_eq_true_iff.1 ((List.all_eq_true.1 h) m (List.mem_range.2 (by omega)))
                        rw [← HY.out.1, ← HY.out.2] at this
                        omega)
                      have hd : decide (y1 ≤ y0) = true := decide_eq_true hle
                      go_wp2_with fail
                      go_quiet (fail)
                      go_wp2
                      go_ret
                      exact ⟨by rw [e1.out]; rfl, below_drewN HBs.out _⟩
                    · have hd : decide (y1 ≤ y0) = false := decide_eq_false hle
                      go_wp2_with fail
                      go_quiet (fail)
                      go_wp2
                      go_roundw
                      case rel =>
                        refine ⟨m + 1, by omega, by go_num, Lib.hid (below_drewN hbs.out _), Lib.hid (fun j hj => ?_)⟩
                        by_cases e : j = m
                        · rw [e, ← HY.out.1, ← HY.out.2]; omega
                        · exact hno.out j (by omega)
                      case measure => simp [intOf]; omega
                  · have hm1 : m = p.ats.length - 1 := by omega
                    have e1 : Hid (p.err = 0) := Lib.hid (by
                      rw [HE.out, if_neg]
                      rw [Bool.not_eq_false, Pf.order, List.all_eq_true]
                      intro j hj
                      rw [decide_eq_true_iff]
                      exact hno.out j (by rw [hm1]; exact List.mem_range.1 hj))
                    go_wp2
                    go_ret
                    exact ⟨by rw [e1.out]; rfl, HBs.out⟩
      · have d5 : ((p.gr.length : Int) != (p.ats.length : Int)) = true := by rw [bne_iff_ne]; omega
        have HCF : Hid (p.count = false) := Lib.hid (by unfold Pf.count; rw [decide_eq_false h3, Bool.and_false])
        have HE : Hid (p.err = 3) := Lib.hid (by unfold Pf.err; rw [if_pos HCF.out])
        go_wp2
        go_ret
        exact ⟨by rw [HE.out]; rfl, HW1.out⟩
end Go.Proofs.Ytobmhamdkngehaa
