/-
  Parts of the proof, in the order in which they build: Named.
-/
import Derived.Deep.CutRange
import Derived.BigQuiet
import Derived.Test.YtdgibmgifgdpbaaH16
import Derived.Test.YtdgibmgifgdpbaaH32
import Derived.Test.YtdgibmgifgdpbaaH22
import Derived.Test.YtdgibmgifgdpbaaG16
set_option linter.unusedVariables false
set_option linter.unusedSimpArgs false
namespace Go.Proofs.Ytdgibmgifgdpbaa
open Go.RowKit Go.Shelf
open Lim

set_option maxRecDepth 20000 in
set_option maxHeartbeats 8000000 in
theorem named_any {B : Nat} {nv : Value} {ns : List Int} {wh : Int} {w : World} (hB : B ≤ w.heap.size) (hn : RS B w nv ns.length (u8s ns)) (hnu : ∀ x ∈ ns, 0 ≤ x ∧ x ≤ 255) :
    Calls Try.prog 7 #[nv, .int .i64 wh] w fun e w' => e = .returned (.bool true) ∧ Below w.heap.size w w' := by
  have HA := Lib.hid (And.intro hB (And.intro hn hnu))
  obtain ⟨na, nc, rfl, -⟩ := hn
  clear hB hnu
  go_enter Try.func7, Try.ntmps7
  go_wp2_with fail
  refine (of_dk HA.out.1 HA.out.2.1 HA.out.2.2).mono ?_
  rintro e w1 ⟨rfl, hd0, hb1, hs1⟩
  have HD0 := Lib.hid (And.intro hd0 (And.intro hb1 hs1))
  clear hd0 hb1 hs1
  go_wp2_with fail
  refine (made_any (d := w.heap.size) (c0 := 0) (HD0.out.1.deck (n := 0) (by omega)) (by omega) (by omega) (by omega)).mono ?_
  rintro e w3 ⟨m, rows, hv, sv, tv, hs, ss, T, c', rfl, hM, hdk, -, hgr, o1, o2, o3⟩
  have HM := Lib.hid hM
  have HO : Hid (openErr (m : Int) hs ss = 0) := Lib.hid (hM.right (by omega) (by omega))
  have HLN := Lib.hid (hM.lens (by omega) (by omega))
  obtain ⟨S, hSe⟩ : ∃ S, S = w1.heap.size := ⟨_, rfl⟩
  have HK0 : Hid (Kept w S w.heap.size c' [rwI tv T, rwI sv ss, rwH hv hs] [] w3) := Lib.hid (by
    have h1 := HD0.out.2.1.size
    have h2 := HD0.out.2.2
    have h4 := hgr.size
    rw [hSe]
    refine ⟨below_grown HD0.out.2.1 hgr h1 (fun r e => by cases e; exact Nat.le_refl _), ⟨Nat.le_refl _, by omega, h4⟩, hdk, ?_, fun p hp => by cases hp⟩
    intro r hr
    simp only [List.mem_cons, List.not_mem_nil, or_false] at hr
    rcases hr with rfl | rfl | rfl
    · exact o3
    · exact o2
    · exact o1)
  obtain ⟨ha, hcap, rfl⟩ : ∃ g cap, hv = .slice (some ⟨g, 0, none⟩) hs.length cap := form_pos (r := rwH hv hs) o1 (show 0 < hs.length by have := HLN.out; omega)
  obtain ⟨sa, scap, rfl⟩ : ∃ g cap, sv = .slice (some ⟨g, 0, none⟩) ss.length cap := form_pos (r := rwI sv ss) o2 (show 0 < ss.length by have := HLN.out; omega)
  obtain ⟨ta, tcap, rfl⟩ : ∃ g cap, tv = .slice (some ⟨g, 0, none⟩) T.length cap := form_pos (r := rwI tv T) o3 (show 0 < T.length by have := HLN.out; omega)
  clear hM hgr o1 o2 o3 hSe HD0 HA hdk
  go_upto_region 2 with (fail)
  have HK1 := Lib.hid (HK0.out.lay (.cells #[.int .i64 m, .slice (some ⟨ha, 0, none⟩) hs.length hcap, .slice (some ⟨sa, 0, none⟩) ss.length scap] 25))
  obtain ⟨q, hqe⟩ : ∃ q, q = w3.heap.size := ⟨_, rfl⟩
  simp only [← hqe] at HK1 ⊢
  generalize w3.alloc (.cells #[.int .i64 m, .slice (some ⟨ha, 0, none⟩) hs.length hcap, .slice (some ⟨sa, 0, none⟩) ss.length scap] 25) = w4 at HK1 ⊢
  clear HK0 hqe
  obtain ⟨b0, b1, b2⟩ := HK1.out.box3 (q := q) (a := .int .i64 m) (b := .slice (some ⟨ha, 0, none⟩) hs.length hcap) (e := .slice (some ⟨sa, 0, none⟩) ss.length scap) (t := 25) (by simp)
  go_wp2_with fail
  refine (Sides_any (B := w4.heap.size) (Nat.le_refl _) (HK1.out.rsH (v := .slice (some ⟨ha, 0, none⟩) hs.length hcap) (hs := hs) (by simp)) (HK1.out.rsI (v := .slice (some ⟨sa, 0, none⟩) ss.length scap) (l := ss) (by simp))).mono ?_
  rintro e w5 ⟨v7, er, sl, rfl, hb, hans, ho⟩
  obtain ⟨rfl, hsl, hsll⟩ := sides_ok HO.out hans
  have HK2 := Lib.hid ((HK1.out.grow hb).addR (r := rwS v7 sl) HK1.out.o.2.2 ho)
  obtain ⟨a7, c7, rfl⟩ : ∃ g cap, v7 = .slice (some ⟨g, 0, none⟩) sl.length cap := form_pos (r := rwS v7 sl) ho (show 0 < sl.length by have h1 := HLN.out; omega)
  have HSL := Lib.hid (And.intro hsl hsll)
  clear hb hans ho hsl hsll HK1 b0 b1 b2
  obtain ⟨b0, b1, b2⟩ := HK2.out.box3 (q := q) (a := .int .i64 m) (b := .slice (some ⟨ha, 0, none⟩) hs.length hcap) (e := .slice (some ⟨sa, 0, none⟩) ss.length scap) (t := 25) (by simp)
  go_wp2_with fail
  refine (Passes_any (B := w5.heap.size) (sea := 1) (Nat.le_refl _) (HK2.out.rsH (v := .slice (some ⟨ha, 0, none⟩) hs.length hcap) (hs := hs) (by simp)) (HK2.out.rsI (v := .slice (some ⟨sa, 0, none⟩) ss.length scap) (l := ss) (by simp))).mono ?_
  rintro e w6 ⟨va, e1, la, rfl, hb, hpa, ho⟩
  have HK3 := Lib.hid ((HK2.out.grow hb).addR (r := rwH va la) HK2.out.o.2.2 ho)
  have HPA := Lib.hid (And.intro hpa ho)
  clear hb hpa ho HK2 b0 b1 b2
  obtain ⟨b0, b1, b2⟩ := HK3.out.box3 (q := q) (a := .int .i64 m) (b := .slice (some ⟨ha, 0, none⟩) hs.length hcap) (e := .slice (some ⟨sa, 0, none⟩) ss.length scap) (t := 25) (by simp)
  go_wp2_with fail
  refine (Passes_any (B := w6.heap.size) (sea := 2) (Nat.le_refl _) (HK3.out.rsH (v := .slice (some ⟨ha, 0, none⟩) hs.length hcap) (hs := hs) (by simp)) (HK3.out.rsI (v := .slice (some ⟨sa, 0, none⟩) ss.length scap) (l := ss) (by simp))).mono ?_
  rintro e w7 ⟨vb, e2, lb, rfl, hb, hpb, ho⟩
  obtain ⟨rfl, rfl, hla, hlb, hnc⟩ := named_cell HO.out HSL.out.1 HPA.out.1 hpb
  have HK4 := Lib.hid ((HK3.out.grow hb).addR (r := rwH vb lb) HK3.out.o.2.2 ho)
  obtain ⟨al, lc, rfl⟩ : ∃ g cap, va = .slice (some ⟨g, 0, none⟩) la.length cap := form_pos (r := rwH va la) HPA.out.2 (show 0 < la.length by have := HLN.out; omega)
  obtain ⟨bl, mc, rfl⟩ : ∃ g cap, vb = .slice (some ⟨g, 0, none⟩) lb.length cap := form_pos (r := rwH vb lb) ho (show 0 < lb.length by have := HLN.out; omega)
  have HNC := Lib.hid (And.intro (And.intro hla hlb) hnc)
  clear hb hpb ho HPA HK3 b0 b1 b2 hla hlb hnc
  have hl1 : ((sl.length : Nat) : Int) = ((ss.length : Nat) : Int) := by rw [HSL.out.2]
  have hl2 : ((la.length : Nat) : Int) = ((ss.length : Nat) : Int) := by rw [HNC.out.1.1]
  have hl3 : ((lb.length : Nat) : Int) = ((ss.length : Nat) : Int) := by rw [HNC.out.1.2]
  obtain ⟨b0, b1, b2⟩ := HK4.out.box3 (q := q) (a := .int .i64 m) (b := .slice (some ⟨ha, 0, none⟩) hs.length hcap) (e := .slice (some ⟨sa, 0, none⟩) ss.length scap) (t := 25) (by simp)
  go_wp2_with fail
  clear hl1 hl2 hl3 b0 b1 b2
  go_loopw [79] (fun i W => ∃ j : Nat, j ≤ ss.length ∧ i = .int .i64 j ∧ Hid (Kept w S w.heap.size c' [rwH (.slice (some ⟨bl, 0, none⟩) lb.length mc) lb, rwH (.slice (some ⟨al, 0, none⟩) la.length lc) la, rwS (.slice (some ⟨a7, 0, none⟩) sl.length c7) sl, rwI (.slice (some ⟨ta, 0, none⟩) T.length tcap) T, rwI (.slice (some ⟨sa, 0, none⟩) ss.length scap) ss, rwH (.slice (some ⟨ha, 0, none⟩) hs.length hcap) hs] [(q, Obj.cells #[.int .i64 m, .slice (some ⟨ha, 0, none⟩) hs.length hcap, .slice (some ⟨sa, 0, none⟩) ss.length scap] 25 (0, 0))] W)) (fun i _ => ss.length - (intOf i).toNat)
  case atStart => exact ⟨0, Nat.zero_le _, rfl, HK4⟩
  case round =>
    clear HK4
    obtain ⟨j, hj, rfl, HK⟩ := hrel
    by_cases hlj : j < ss.length
    · have h1 : j < sl.length := by have := HSL.out.2; omega
      have h2 : j < la.length := by have := HNC.out.1.1; omega
      have h3 : j < lb.length := by have := HNC.out.1.2; omega
      have q0 := HK.out.cellI (g := sa) (cap := scap) (l := ss) (by simp) hlj
      obtain ⟨q1, q2, q3⟩ := HK.out.cellS (g := a7) (cap := c7) (l := sl) (by simp) h1
      obtain ⟨q4, q5⟩ := HK.out.cellH (g := al) (cap := lc) (l := la) (by simp) h2
      obtain ⟨q6, q7⟩ := HK.out.cellH (g := bl) (cap := mc) (l := lb) (by simp) h3
      have hn := HNC.out.2 j hlj
      obtain ⟨sc, hsc⟩ : ∃ t, t = ss.getD j 0 := ⟨_, rfl⟩
      obtain ⟨⟨x1, x2, x3⟩, hx⟩ : ∃ t, t = sl.getD j (false, false, false) := ⟨_, rfl⟩
      obtain ⟨⟨y1, y2⟩, hy⟩ : ∃ t, t = la.getD j (0, 0) := ⟨_, rfl⟩
      obtain ⟨⟨z1, z2⟩, hz⟩ : ∃ t, t = lb.getD j (0, 0) := ⟨_, rfl⟩
      rw [← hsc] at q0 hn
      rw [← hx] at q1 q2 q3 hn
      rw [← hy] at q4 q5 hn
      rw [← hz] at q6 q7 hn
      dsimp only at q1 q2 q3 q4 q5 q6 q7
      have HN := Lib.hid hn
      have hj1 : (j : Int) < (ss.length : Int) := by omega
      have hj2 : (j : Int) < 1000 := by have := HLN.out; omega
      have hj3 : (j : Int) < (sl.length : Int) := by omega
      have hj4 : (j : Int) < (la.length : Int) := by omega
      have hj5 : (j : Int) < (lb.length : Int) := by omega
      clear hsc hx hy hz hn
      go_upto_region 11 with (fail)
      have HBW := Lib.hid ((Below.refl _ wr).alloc (Nat.le_refl _) (.cells #[.bool x1, .bool x2, .bool x3] 41))
      have HKb := Lib.hid (HK.out.lay (.cells #[.bool x1, .bool x2, .bool x3] 41))
      obtain ⟨q15, hqe⟩ : ∃ q, q = wr.heap.size := ⟨_, rfl⟩
      have hqe2 := hqe
      rw [← hqe] at HKb
      simp only [← hqe]
      generalize wr.alloc (.cells #[.bool x1, .bool x2, .bool x3] 41) = wa at HKb HBW ⊢
      clear HK hqe hqe2
      obtain ⟨o0, o1, o2⟩ := HKb.out.box3 (q := q15) (a := .bool x1) (b := .bool x2) (e := .bool x3) (t := 41) (by simp)
      have KQ : Hid (wa.cell? ⟨al, j * 2, none⟩ = some (.int .i64 y1) ∧ wa.cell? ⟨al, j * 2 + 1, none⟩ = some (.int .i64 y2) ∧ wa.cell? ⟨bl, j * 2, none⟩ = some (.int .i64 z1) ∧ wa.cell? ⟨bl, j * 2 + 1, none⟩ = some (.int .i64 z2)) := Lib.hid ⟨cell_on HBW.out q4, cell_on HBW.out q5, cell_on HBW.out q6, cell_on HBW.out q7⟩
      clear q0 q1 q2 q3 q4 q5 q6 q7 HBW
      by_cases h0 : sc = 0
      · have z0 : (sc != 0) = false := by simp [h0]
        have HN1 := Lib.hid (And.intro (HN.out.one h0) (HN.out.two h0))
        clear h0 HN
        obtain ⟨k1, k2, k3, k4⟩ := KQ.out
        by_cases hy1 : y1 = -1
        · have d1 : (y1 != -1) = false := by simp [hy1]
          have hxx := HN1.out.1 (.inl hy1)
          by_cases hz1 : z1 = -1
          · have d2 : (z1 != -1) = false := by simp [hz1]
            simp only [d1, d2, Prod.mk.injEq] at hxx
            obtain ⟨rfl, rfl, rfl⟩ := hxx
            clear hy1 hz1 HN1
            as_aux_lemma =>
              go_upto_region 14 with (fail)
              go_quiet (fail)
              have HKc := Lib.hid (HKb.out.grow (below_drewN (Below.refl wa.heap.size wa) nq))
              have o0 := cell_on (below_drewN (Below.refl wa.heap.size wa) nq) o0
              have o1 := cell_on (below_drewN (Below.refl wa.heap.size wa) nq) o1
              have o2 := cell_on (below_drewN (Below.refl wa.heap.size wa) nq) o2
              generalize wa.drewN nq = wb at HKc o0 o1 o2 ⊢
              clear HKb k1 k2 k3 k4
              go_wp2
              go_roundw
              case rel => exact ⟨j + 1, by omega, by go_num, Lib.hid (HKc.out.less (fun r h => h) (fun p h => .tail _ h))⟩
              case measure => simp [intOf]; omega
          · have d2 : (z1 != -1) = true := by rw [bne_iff_ne]; exact hz1
            simp only [d1, d2, Prod.mk.injEq] at hxx
            obtain ⟨rfl, rfl, rfl⟩ := hxx
            clear hy1 hz1 HN1
            as_aux_lemma =>
              go_upto_region 14 with (fail)
              go_quiet (fail)
              have HKc := Lib.hid (HKb.out.grow (below_drewN (Below.refl wa.heap.size wa) nq))
              have o0 := cell_on (below_drewN (Below.refl wa.heap.size wa) nq) o0
              have o1 := cell_on (below_drewN (Below.refl wa.heap.size wa) nq) o1
              have o2 := cell_on (below_drewN (Below.refl wa.heap.size wa) nq) o2
              generalize wa.drewN nq = wb at HKc o0 o1 o2 ⊢
              clear HKb k1 k2 k3 k4
              go_wp2
              go_roundw
              case rel => exact ⟨j + 1, by omega, by go_num, Lib.hid (HKc.out.less (fun r h => h) (fun p h => .tail _ h))⟩
              case measure => simp [intOf]; omega
        · have d1 : (y1 != -1) = true := by rw [bne_iff_ne]; exact hy1
          by_cases hz1 : z1 = -1
          · have d2 : (z1 != -1) = false := by simp [hz1]
            have hxx := HN1.out.1 (.inr hz1)
            simp only [d1, d2, Prod.mk.injEq] at hxx
            obtain ⟨rfl, rfl, rfl⟩ := hxx
            clear hy1 hz1 HN1
            as_aux_lemma =>
              go_upto_region 14 with (fail)
              go_quiet (fail)
              have HKc := Lib.hid (HKb.out.grow (below_drewN (Below.refl wa.heap.size wa) nq))
              have o0 := cell_on (below_drewN (Below.refl wa.heap.size wa) nq) o0
              have o1 := cell_on (below_drewN (Below.refl wa.heap.size wa) nq) o1
              have o2 := cell_on (below_drewN (Below.refl wa.heap.size wa) nq) o2
              generalize wa.drewN nq = wb at HKc o0 o1 o2 ⊢
              clear HKb k1 k2 k3 k4
              go_wp2
              go_roundw
              case rel => exact ⟨j + 1, by omega, by go_num, Lib.hid (HKc.out.less (fun r h => h) (fun p h => .tail _ h))⟩
              case measure => simp [intOf]; omega
          · have d2 : (z1 != -1) = true := by rw [bne_iff_ne]; exact hz1
            obtain ⟨t1, t2, t3⟩ := HN1.out.2 hy1 hz1
            have HT := Lib.hid (And.intro t1 (And.intro t2 t3))
            clear hy1 hz1 t1 t2 t3 HN1
            as_aux_lemma =>
              go_upto_region 14 with (fail)
              go_quiet (fail)
              have HKc := Lib.hid (HKb.out.grow (below_drewN (Below.refl wa.heap.size wa) nq))
              have o0 := cell_on (below_drewN (Below.refl wa.heap.size wa) nq) o0
              have o1 := cell_on (below_drewN (Below.refl wa.heap.size wa) nq) o1
              have o2 := cell_on (below_drewN (Below.refl wa.heap.size wa) nq) o2
              have k1 := cell_on (below_drewN (Below.refl wa.heap.size wa) nq) k1
              have k2 := cell_on (below_drewN (Below.refl wa.heap.size wa) nq) k2
              have k3 := cell_on (below_drewN (Below.refl wa.heap.size wa) nq) k3
              have k4 := cell_on (below_drewN (Below.refl wa.heap.size wa) nq) k4
              generalize wa.drewN nq = wb at HKc o0 o1 o2 k1 k2 k3 k4 ⊢
              clear HKb d1 d2 KQ
              have D1 : Hid (decide (y2 < z1) = (x1 && (!x2 && !x3))) := Lib.hid (by
                have h := HT.out.1
                rw [Bool.eq_iff_iff, decide_eq_true_eq, ← h]
                simp)
              have D2 : Hid (decide (z2 < y1) = (!x1 && (x2 && !x3))) := Lib.hid (by
                have h := HT.out.2.1
                rw [Bool.eq_iff_iff, decide_eq_true_eq, ← h]
                simp)
              have D3 : Hid (x3 = (decide (y1 ≤ z2) && decide (z1 ≤ y2))) := Lib.hid (by
                have h := HT.out.2.2
                rw [Bool.eq_iff_iff, h]
                simp)
              clear HT
              go_upto_region 18 with (fail)
              cases x1 with
              | true =>
                cases x2 with
                | true =>
                  cases x3 with
                  | true =>
                    have d1 : decide (y2 < z1) = false := D1.out
                    have d2 : decide (z2 < y1) = false := D2.out
                    clear D1 D2
                    have d34 : true = (decide (y1 ≤ z2) && decide (z1 ≤ y2)) := D3.out
                    rw [eq_comm, Bool.and_eq_true] at d34
                    obtain ⟨d3, d4⟩ := d34
                    clear D3
                    go_quiet (fail)
                    have HKd := Lib.hid (HKc.out.grow (below_drewN (Below.refl wb.heap.size wb) nq))
                    have o2 := cell_on (below_drewN (Below.refl wb.heap.size wb) nq) o2
                    have k1 := cell_on (below_drewN (Below.refl wb.heap.size wb) nq) k1
                    have k2 := cell_on (below_drewN (Below.refl wb.heap.size wb) nq) k2
                    have k3 := cell_on (below_drewN (Below.refl wb.heap.size wb) nq) k3
                    have k4 := cell_on (below_drewN (Below.refl wb.heap.size wb) nq) k4
                    generalize wb.drewN nq = we at HKd o2 k1 k2 k3 k4 ⊢
                    clear HKc o0 o1
                    go_upto_region 19 with (fail)
                    go_quiet (fail)
                    have HKe := Lib.hid (HKd.out.grow (below_drewN (Below.refl we.heap.size we) nq))
                    generalize we.drewN nq = wf at HKe ⊢
                    clear HKd o2 k1 k2 k3 k4
                    go_wp2
                    go_roundw
                    case rel => exact ⟨j + 1, by omega, by go_num, Lib.hid (HKe.out.less (fun r h => h) (fun p h => .tail _ h))⟩
                    case measure => simp [intOf]; omega
                  | false =>
                    have d1 : decide (y2 < z1) = false := D1.out
                    have d2 : decide (z2 < y1) = false := D2.out
                    clear D1 D2
                    have d34 : false = (decide (y1 ≤ z2) && decide (z1 ≤ y2)) := D3.out
                    clear D3
                    cases d3 : decide (y1 ≤ z2) with
                    | true =>
                      rw [d3, Bool.true_and, eq_comm] at d34
                      go_quiet (fail)
                      have HKd := Lib.hid (HKc.out.grow (below_drewN (Below.refl wb.heap.size wb) nq))
                      have o2 := cell_on (below_drewN (Below.refl wb.heap.size wb) nq) o2
                      have k1 := cell_on (below_drewN (Below.refl wb.heap.size wb) nq) k1
                      have k2 := cell_on (below_drewN (Below.refl wb.heap.size wb) nq) k2
                      have k3 := cell_on (below_drewN (Below.refl wb.heap.size wb) nq) k3
                      have k4 := cell_on (below_drewN (Below.refl wb.heap.size wb) nq) k4
                      generalize wb.drewN nq = we at HKd o2 k1 k2 k3 k4 ⊢
                      clear HKc o0 o1
                      go_upto_region 19 with (fail)
                      go_quiet (fail)
                      have HKe := Lib.hid (HKd.out.grow (below_drewN (Below.refl we.heap.size we) nq))
                      generalize we.drewN nq = wf at HKe ⊢
                      clear HKd o2 k1 k2 k3 k4
                      go_wp2
                      go_roundw
                      case rel => exact ⟨j + 1, by omega, by go_num, Lib.hid (HKe.out.less (fun r h => h) (fun p h => .tail _ h))⟩
                      case measure => simp [intOf]; omega
                    | false =>
                      clear d34
                      go_quiet (fail)
                      have HKd := Lib.hid (HKc.out.grow (below_drewN (Below.refl wb.heap.size wb) nq))
                      have o2 := cell_on (below_drewN (Below.refl wb.heap.size wb) nq) o2
                      have k1 := cell_on (below_drewN (Below.refl wb.heap.size wb) nq) k1
                      have k2 := cell_on (below_drewN (Below.refl wb.heap.size wb) nq) k2
                      have k3 := cell_on (below_drewN (Below.refl wb.heap.size wb) nq) k3
                      have k4 := cell_on (below_drewN (Below.refl wb.heap.size wb) nq) k4
                      generalize wb.drewN nq = we at HKd o2 k1 k2 k3 k4 ⊢
                      clear HKc o0 o1
                      go_upto_region 19 with (fail)
                      go_quiet (fail)
                      have HKe := Lib.hid (HKd.out.grow (below_drewN (Below.refl we.heap.size we) nq))
                      generalize we.drewN nq = wf at HKe ⊢
                      clear HKd o2 k1 k2 k3 k4
                      go_wp2
                      go_roundw
                      case rel => exact ⟨j + 1, by omega, by go_num, Lib.hid (HKe.out.less (fun r h => h) (fun p h => .tail _ h))⟩
                      case measure => simp [intOf]; omega
                | false =>
                  cases x3 with
                  | true =>
                    have d1 : decide (y2 < z1) = false := D1.out
                    have d2 : decide (z2 < y1) = false := D2.out
                    clear D1 D2
                    have d34 : true = (decide (y1 ≤ z2) && decide (z1 ≤ y2)) := D3.out
                    rw [eq_comm, Bool.and_eq_true] at d34
                    obtain ⟨d3, d4⟩ := d34
                    clear D3
                    go_quiet (fail)
                    have HKd := Lib.hid (HKc.out.grow (below_drewN (Below.refl wb.heap.size wb) nq))
                    have o2 := cell_on (below_drewN (Below.refl wb.heap.size wb) nq) o2
                    have k1 := cell_on (below_drewN (Below.refl wb.heap.size wb) nq) k1
                    have k2 := cell_on (below_drewN (Below.refl wb.heap.size wb) nq) k2
                    have k3 := cell_on (below_drewN (Below.refl wb.heap.size wb) nq) k3
                    have k4 := cell_on (below_drewN (Below.refl wb.heap.size wb) nq) k4
                    generalize wb.drewN nq = we at HKd o2 k1 k2 k3 k4 ⊢
                    clear HKc o0 o1
                    go_upto_region 19 with (fail)
                    go_quiet (fail)
                    have HKe := Lib.hid (HKd.out.grow (below_drewN (Below.refl we.heap.size we) nq))
                    generalize we.drewN nq = wf at HKe ⊢
                    clear HKd o2 k1 k2 k3 k4
                    go_wp2
                    go_roundw
                    case rel => exact ⟨j + 1, by omega, by go_num, Lib.hid (HKe.out.less (fun r h => h) (fun p h => .tail _ h))⟩
                    case measure => simp [intOf]; omega
                  | false =>
                    have d1 : decide (y2 < z1) = true := D1.out
                    have d2 : decide (z2 < y1) = false := D2.out
                    clear D1 D2
                    have d34 : false = (decide (y1 ≤ z2) && decide (z1 ≤ y2)) := D3.out
                    clear D3
                    cases d3 : decide (y1 ≤ z2) with
                    | true =>
                      rw [d3, Bool.true_and, eq_comm] at d34
                      go_quiet (fail)
                      have HKd := Lib.hid (HKc.out.grow (below_drewN (Below.refl wb.heap.size wb) nq))
                      have o2 := cell_on (below_drewN (Below.refl wb.heap.size wb) nq) o2
                      have k1 := cell_on (below_drewN (Below.refl wb.heap.size wb) nq) k1
                      have k2 := cell_on (below_drewN (Below.refl wb.heap.size wb) nq) k2
                      have k3 := cell_on (below_drewN (Below.refl wb.heap.size wb) nq) k3
                      have k4 := cell_on (below_drewN (Below.refl wb.heap.size wb) nq) k4
                      generalize wb.drewN nq = we at HKd o2 k1 k2 k3 k4 ⊢
                      clear HKc o0 o1
                      go_upto_region 19 with (fail)
                      go_quiet (fail)
                      have HKe := Lib.hid (HKd.out.grow (below_drewN (Below.refl we.heap.size we) nq))
                      generalize we.drewN nq = wf at HKe ⊢
                      clear HKd o2 k1 k2 k3 k4
                      go_wp2
                      go_roundw
                      case rel => exact ⟨j + 1, by omega, by go_num, Lib.hid (HKe.out.less (fun r h => h) (fun p h => .tail _ h))⟩
                      case measure => simp [intOf]; omega
                    | false =>
                      clear d34
                      go_quiet (fail)
                      have HKd := Lib.hid (HKc.out.grow (below_drewN (Below.refl wb.heap.size wb) nq))
                      have o2 := cell_on (below_drewN (Below.refl wb.heap.size wb) nq) o2
                      have k1 := cell_on (below_drewN (Below.refl wb.heap.size wb) nq) k1
                      have k2 := cell_on (below_drewN (Below.refl wb.heap.size wb) nq) k2
                      have k3 := cell_on (below_drewN (Below.refl wb.heap.size wb) nq) k3
                      have k4 := cell_on (below_drewN (Below.refl wb.heap.size wb) nq) k4
                      generalize wb.drewN nq = we at HKd o2 k1 k2 k3 k4 ⊢
                      clear HKc o0 o1
                      go_upto_region 19 with (fail)
                      go_quiet (fail)
                      have HKe := Lib.hid (HKd.out.grow (below_drewN (Below.refl we.heap.size we) nq))
                      generalize we.drewN nq = wf at HKe ⊢
                      clear HKd o2 k1 k2 k3 k4
                      go_wp2
                      go_roundw
                      case rel => exact ⟨j + 1, by omega, by go_num, Lib.hid (HKe.out.less (fun r h => h) (fun p h => .tail _ h))⟩
                      case measure => simp [intOf]; omega
              | false =>
                cases x2 with
                | true =>
                  cases x3 with
                  | true =>
                    have d1 : decide (y2 < z1) = false := D1.out
                    have d2 : decide (z2 < y1) = false := D2.out
                    clear D1 D2
                    have d34 : true = (decide (y1 ≤ z2) && decide (z1 ≤ y2)) := D3.out
                    rw [eq_comm, Bool.and_eq_true] at d34
                    obtain ⟨d3, d4⟩ := d34
                    clear D3
                    go_quiet (fail)
                    have HKd := Lib.hid (HKc.out.grow (below_drewN (Below.refl wb.heap.size wb) nq))
                    have o2 := cell_on (below_drewN (Below.refl wb.heap.size wb) nq) o2
                    have k1 := cell_on (below_drewN (Below.refl wb.heap.size wb) nq) k1
                    have k2 := cell_on (below_drewN (Below.refl wb.heap.size wb) nq) k2
                    have k3 := cell_on (below_drewN (Below.refl wb.heap.size wb) nq) k3
                    have k4 := cell_on (below_drewN (Below.refl wb.heap.size wb) nq) k4
                    generalize wb.drewN nq = we at HKd o2 k1 k2 k3 k4 ⊢
                    clear HKc o0 o1
                    go_upto_region 19 with (fail)
                    go_quiet (fail)
                    have HKe := Lib.hid (HKd.out.grow (below_drewN (Below.refl we.heap.size we) nq))
                    generalize we.drewN nq = wf at HKe ⊢
                    clear HKd o2 k1 k2 k3 k4
                    go_wp2
                    go_roundw
                    case rel => exact ⟨j + 1, by omega, by go_num, Lib.hid (HKe.out.less (fun r h => h) (fun p h => .tail _ h))⟩
                    case measure => simp [intOf]; omega
                  | false =>
                    have d1 : decide (y2 < z1) = false := D1.out
                    have d2 : decide (z2 < y1) = true := D2.out
                    clear D1 D2
                    have d34 : false = (decide (y1 ≤ z2) && decide (z1 ≤ y2)) := D3.out
                    clear D3
                    cases d3 : decide (y1 ≤ z2) with
                    | true =>
                      rw [d3, Bool.true_and, eq_comm] at d34
                      go_quiet (fail)
                      have HKd := Lib.hid (HKc.out.grow (below_drewN (Below.refl wb.heap.size wb) nq))
                      have o2 := cell_on (below_drewN (Below.refl wb.heap.size wb) nq) o2
                      have k1 := cell_on (below_drewN (Below.refl wb.heap.size wb) nq) k1
                      have k2 := cell_on (below_drewN (Below.refl wb.heap.size wb) nq) k2
                      have k3 := cell_on (below_drewN (Below.refl wb.heap.size wb) nq) k3
                      have k4 := cell_on (below_drewN (Below.refl wb.heap.size wb) nq) k4
                      generalize wb.drewN nq = we at HKd o2 k1 k2 k3 k4 ⊢
                      clear HKc o0 o1
                      go_upto_region 19 with (fail)
                      go_quiet (fail)
                      have HKe := Lib.hid (HKd.out.grow (below_drewN (Below.refl we.heap.size we) nq))
                      generalize we.drewN nq = wf at HKe ⊢
                      clear HKd o2 k1 k2 k3 k4
                      go_wp2
                      go_roundw
                      case rel => exact ⟨j + 1, by omega, by go_num, Lib.hid (HKe.out.less (fun r h => h) (fun p h => .tail _ h))⟩
                      case measure => simp [intOf]; omega
                    | false =>
                      clear d34
                      go_quiet (fail)
                      have HKd := Lib.hid (HKc.out.grow (below_drewN (Below.refl wb.heap.size wb) nq))
                      have o2 := cell_on (below_drewN (Below.refl wb.heap.size wb) nq) o2
                      have k1 := cell_on (below_drewN (Below.refl wb.heap.size wb) nq) k1
                      have k2 := cell_on (below_drewN (Below.refl wb.heap.size wb) nq) k2
                      have k3 := cell_on (below_drewN (Below.refl wb.heap.size wb) nq) k3
                      have k4 := cell_on (below_drewN (Below.refl wb.heap.size wb) nq) k4
                      generalize wb.drewN nq = we at HKd o2 k1 k2 k3 k4 ⊢
                      clear HKc o0 o1
                      go_upto_region 19 with (fail)
                      go_quiet (fail)
                      have HKe := Lib.hid (HKd.out.grow (below_drewN (Below.refl we.heap.size we) nq))
                      generalize we.drewN nq = wf at HKe ⊢
                      clear HKd o2 k1 k2 k3 k4
                      go_wp2
                      go_roundw
                      case rel => exact ⟨j + 1, by omega, by go_num, Lib.hid (HKe.out.less (fun r h => h) (fun p h => .tail _ h))⟩
                      case measure => simp [intOf]; omega
                | false =>
                  cases x3 with
                  | true =>
                    have d1 : decide (y2 < z1) = false := D1.out
                    have d2 : decide (z2 < y1) = false := D2.out
                    clear D1 D2
                    have d34 : true = (decide (y1 ≤ z2) && decide (z1 ≤ y2)) := D3.out
                    rw [eq_comm, Bool.and_eq_true] at d34
                    obtain ⟨d3, d4⟩ := d34
                    clear D3
                    go_quiet (fail)
                    have HKd := Lib.hid (HKc.out.grow (below_drewN (Below.refl wb.heap.size wb) nq))
                    have o2 := cell_on (below_drewN (Below.refl wb.heap.size wb) nq) o2
                    have k1 := cell_on (below_drewN (Below.refl wb.heap.size wb) nq) k1
                    have k2 := cell_on (below_drewN (Below.refl wb.heap.size wb) nq) k2
                    have k3 := cell_on (below_drewN (Below.refl wb.heap.size wb) nq) k3
                    have k4 := cell_on (below_drewN (Below.refl wb.heap.size wb) nq) k4
                    generalize wb.drewN nq = we at HKd o2 k1 k2 k3 k4 ⊢
                    clear HKc o0 o1
                    go_upto_region 19 with (fail)
                    go_quiet (fail)
                    have HKe := Lib.hid (HKd.out.grow (below_drewN (Below.refl we.heap.size we) nq))
                    generalize we.drewN nq = wf at HKe ⊢
                    clear HKd o2 k1 k2 k3 k4
                    go_wp2
                    go_roundw
                    case rel => exact ⟨j + 1, by omega, by go_num, Lib.hid (HKe.out.less (fun r h => h) (fun p h => .tail _ h))⟩
                    case measure => simp [intOf]; omega
                  | false =>
                    have d1 : decide (y2 < z1) = false := D1.out
                    have d2 : decide (z2 < y1) = false := D2.out
                    clear D1 D2
                    have d34 : false = (decide (y1 ≤ z2) && decide (z1 ≤ y2)) := D3.out
                    clear D3
                    cases d3 : decide (y1 ≤ z2) with
                    | true =>
                      rw [d3, Bool.true_and, eq_comm] at d34
                      go_quiet (fail)
                      have HKd := Lib.hid (HKc.out.grow (below_drewN (Below.refl wb.heap.size wb) nq))
                      have o2 := cell_on (below_drewN (Below.refl wb.heap.size wb) nq) o2
                      have k1 := cell_on (below_drewN (Below.refl wb.heap.size wb) nq) k1
                      have k2 := cell_on (below_drewN (Below.refl wb.heap.size wb) nq) k2
                      have k3 := cell_on (below_drewN (Below.refl wb.heap.size wb) nq) k3
                      have k4 := cell_on (below_drewN (Below.refl wb.heap.size wb) nq) k4
                      generalize wb.drewN nq = we at HKd o2 k1 k2 k3 k4 ⊢
                      clear HKc o0 o1
                      go_upto_region 19 with (fail)
                      go_quiet (fail)
                      have HKe := Lib.hid (HKd.out.grow (below_drewN (Below.refl we.heap.size we) nq))
                      generalize we.drewN nq = wf at HKe ⊢
                      clear HKd o2 k1 k2 k3 k4
                      go_wp2
                      go_roundw
                      case rel => exact ⟨j + 1, by omega, by go_num, Lib.hid (HKe.out.less (fun r h => h) (fun p h => .tail _ h))⟩
                      case measure => simp [intOf]; omega
                    | false =>
                      clear d34
                      go_quiet (fail)
                      have HKd := Lib.hid (HKc.out.grow (below_drewN (Below.refl wb.heap.size wb) nq))
                      have o2 := cell_on (below_drewN (Below.refl wb.heap.size wb) nq) o2
                      have k1 := cell_on (below_drewN (Below.refl wb.heap.size wb) nq) k1
                      have k2 := cell_on (below_drewN (Below.refl wb.heap.size wb) nq) k2
                      have k3 := cell_on (below_drewN (Below.refl wb.heap.size wb) nq) k3
                      have k4 := cell_on (below_drewN (Below.refl wb.heap.size wb) nq) k4
                      generalize wb.drewN nq = we at HKd o2 k1 k2 k3 k4 ⊢
                      clear HKc o0 o1
                      go_upto_region 19 with (fail)
                      go_quiet (fail)
                      have HKe := Lib.hid (HKd.out.grow (below_drewN (Below.refl we.heap.size we) nq))
                      generalize we.drewN nq = wf at HKe ⊢
                      clear HKd o2 k1 k2 k3 k4
                      go_wp2
                      go_roundw
                      case rel => exact ⟨j + 1, by omega, by go_num, Lib.hid (HKe.out.less (fun r h => h) (fun p h => .tail _ h))⟩
                      case measure => simp [intOf]; omega
      · have z0 : (sc != 0) = true := by rw [bne_iff_ne]; exact h0
        have hxx := HN.out.sea h0
        obtain ⟨u1, hu1⟩ : ∃ u, (sc == 1) = u := ⟨_, rfl⟩
        obtain ⟨u2, hu2⟩ : ∃ u, (sc == 2) = u := ⟨_, rfl⟩
        rw [hu1, hu2] at hxx
        simp only [Prod.mk.injEq] at hxx
        obtain ⟨rfl, rfl, rfl⟩ := hxx
        clear h0 HN KQ
        go_wp2
        go_roundw
        case rel => exact ⟨j + 1, by omega, by go_num, Lib.hid (HKb.out.less (fun r h => h) (fun p h => .tail _ h))⟩
        case measure => simp [intOf]; omega
    · have hjn : j = ss.length := by omega
      subst hjn
      clear hlj hj
      obtain ⟨b0, b1, b2⟩ := HK.out.box3 (q := q) (a := .int .i64 m) (b := .slice (some ⟨ha, 0, none⟩) hs.length hcap) (e := .slice (some ⟨sa, 0, none⟩) ss.length scap) (t := 25) (by simp)
      go_wp2_with fail
      refine (fold_nat (v := wh) (n := ss.length) wr (by have := HLN.out; omega)).mono ?_
      rintro e wx ⟨c, rfl, hc, rfl⟩
      have q0 := HK.out.cellI (g := sa) (cap := scap) (l := ss) (by simp) hc
      obtain ⟨q1, q2, q3⟩ := HK.out.cellS (g := a7) (cap := c7) (l := sl) (by simp) (show c < sl.length by have := HSL.out.2; omega)
      obtain ⟨sc, hsc⟩ : ∃ t, t = ss.getD c 0 := ⟨_, rfl⟩
      obtain ⟨⟨x1, x2, x3⟩, hx⟩ : ∃ t, t = sl.getD c (false, false, false) := ⟨_, rfl⟩
      obtain ⟨s1, s2, -⟩ := (sides_say (openErr_ok HO.out) (SpansOk.of HO.out) (seas_of HO.out) HSL.out.1).2 c hc
      rw [← hsc] at q0
      rw [← hx] at q1 q2 q3 s1 s2
      dsimp only at q1 q2 q3 s1 s2
      have HSC := Lib.hid (And.intro hsc hc)
      have HS1 := Lib.hid (And.intro s1 s2)
      have hc1 : (c : Int) < (ss.length : Int) := by omega
      have hc2 : (c : Int) < (sl.length : Int) := by have := HSL.out.2; omega
      have hc3 : (c : Int) < 1000 := by have := HLN.out; omega
      clear hsc hx s1 s2
      by_cases h0 : sc = 0
      · have z0 : (sc != 0) = false := by simp [h0]
        have HST : Hid (∀ (W : World) (want : Int), want = 1 ∨ want = 2 → Kept w S w.heap.size c' [rwH (.slice (some ⟨bl, 0, none⟩) lb.length mc) lb, rwH (.slice (some ⟨al, 0, none⟩) la.length lc) la, rwS (.slice (some ⟨a7, 0, none⟩) sl.length c7) sl, rwI (.slice (some ⟨ta, 0, none⟩) T.length tcap) T, rwI (.slice (some ⟨sa, 0, none⟩) ss.length scap) ss, rwH (.slice (some ⟨ha, 0, none⟩) hs.length hcap) hs] [(q, Obj.cells #[.int .i64 m, .slice (some ⟨ha, 0, none⟩) hs.length hcap, .slice (some ⟨sa, 0, none⟩) ss.length scap] 25 (0, 0))] W → NSt W.heap.size W m ha hcap sa scap hs ss c want) := Lib.hid (fun W want hw HW =>
          ⟨Nat.le_refl _, HO.out, ⟨HLN.out.1, by have := HLN.out; omega, by
            have h1 : ss.length = m * rows := HM.out.sea.len
            have h2 := HM.out.c
            have h3 := HM.out.r
            have h4 : m * rows ≤ 4 * 4 := Nat.mul_le_mul (by omega) (by omega)
            omega⟩, ⟨by have := HM.out.c; omega, by have := HM.out.c; omega⟩, HW.rsH (by simp), HW.rsI (by simp), ⟨HSC.out.2, by rw [← HSC.out.1]; exact h0⟩, hw⟩)
        clear h0 hc
        as_aux_lemma =>
          cases x1 with
          | true =>
            go_wp2_with fail
            refine (opened_says (HST.out wr 1 (.inl rfl) HK.out) (HS1.out.1.1 (by first | rfl | trivial))).mono ?_
            rintro e w9 ⟨rfl, hb⟩
            have HK5 := Lib.hid (HK.out.grow hb)
            have q2 := cell_on hb q2
            clear hb HK q0 q1 q3 b0 b1 b2
            obtain ⟨b0, b1, b2⟩ := HK5.out.box3 (q := q) (a := .int .i64 m) (b := .slice (some ⟨ha, 0, none⟩) hs.length hcap) (e := .slice (some ⟨sa, 0, none⟩) ss.length scap) (t := 25) (by simp)
            cases x2 with
            | true =>
              go_wp2_with fail
              refine (opened_says (HST.out w9 2 (.inr rfl) HK5.out) (HS1.out.2.1 (by first | rfl | trivial))).mono ?_
              rintro e w10 ⟨rfl, hb⟩
              have HK6 := Lib.hid (HK5.out.grow hb)
              clear hb HK5 b0 b1 b2
              go_wp2_with fail
              refine (awake_any _).mono ?_
              rintro e wz ⟨rfl, hb⟩
              have HB := Lib.hid (HK6.out.b.trans (hb.mono HK6.out.b.size))
              clear hb
              go_wp2
              go_ret
              exact ⟨rfl, HB.out⟩
            | false =>
              go_wp2_with fail
              refine (awake_any _).mono ?_
              rintro e wz ⟨rfl, hb⟩
              have HB := Lib.hid (HK5.out.b.trans (hb.mono HK5.out.b.size))
              clear hb
              go_wp2
              go_ret
              exact ⟨rfl, HB.out⟩
          | false =>
            cases x2 with
            | true =>
              go_wp2_with fail
              refine (opened_says (HST.out wr 2 (.inr rfl) HK.out) (HS1.out.2.1 (by first | rfl | trivial))).mono ?_
              rintro e w10 ⟨rfl, hb⟩
              have HK6 := Lib.hid (HK.out.grow hb)
              clear hb HK b0 b1 b2 q0 q1 q2 q3
              go_wp2_with fail
              refine (awake_any _).mono ?_
              rintro e wz ⟨rfl, hb⟩
              have HB := Lib.hid (HK6.out.b.trans (hb.mono HK6.out.b.size))
              clear hb
              go_wp2
              go_ret
              exact ⟨rfl, HB.out⟩
            | false =>
              go_wp2_with fail
              refine (awake_any _).mono ?_
              rintro e wz ⟨rfl, hb⟩
              have HB := Lib.hid (HK.out.b.trans (hb.mono HK.out.b.size))
              clear hb
              go_wp2
              go_ret
              exact ⟨rfl, HB.out⟩
      · have z0 : (sc != 0) = true := by rw [bne_iff_ne]; exact h0
        clear h0 hc
        go_wp2_with fail
        refine (awake_any _).mono ?_
        rintro e wz ⟨rfl, hb⟩
        have HB := Lib.hid (HK.out.b.trans (hb.mono HK.out.b.size))
        clear hb
        go_wp2
        go_ret
        exact ⟨rfl, HB.out⟩
end Go.Proofs.Ytdgibmgifgdpbaa
