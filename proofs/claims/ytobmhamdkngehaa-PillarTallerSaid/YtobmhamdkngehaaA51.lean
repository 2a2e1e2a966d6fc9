/-
  Parts of the proof, in the order in which they build: PoTall.
-/
import Derived.Deep.CutRange
import Derived.BigQuiet
import Derived.Test.YtobmhamdkngehaaA50
import Derived.Test.YtobmhamdkngehaaA44
import Derived.Test.YtobmhamdkngehaaC49
import Derived.Test.YtobmhamdkngehaaA20
set_option linter.unusedVariables false
set_option linter.unusedSimpArgs false
namespace Go.Proofs.Ytobmhamdkngehaa
open Go.RowKit Go.Shelf
open Lim

set_option maxRecDepth 20000 in
set_option maxHeartbeats 8000000 in
theorem ptaller_any {B : Nat} {nv tv0 : Value} {ns ts : List Int} {a0 a1 a2 : Int} {w : World} (hB : B ≤ w.heap.size) (hn : RS B w nv ns.length (u8s ns)) (hnu : ∀ x ∈ ns, 0 ≤ x ∧ x ≤ 255) (ht : RS B w tv0 ts.length (u8s ts)) (htu : ∀ x ∈ ts, 0 ≤ x ∧ x ≤ 255) :
    Calls Try.prog 5 #[nv, tv0, .int .i64 a0, .int .i64 a1, .int .i64 a2] w fun e w' => e = .returned (.bool true) ∧ Below w.heap.size w w' := by
  have HA := Lib.hid (And.intro hB (And.intro hn (And.intro hnu (And.intro ht htu))))
  obtain ⟨na, nc, rfl, -⟩ := hn
  obtain ⟨ua, uc, rfl, -⟩ := ht
  clear hB hnu htu
  go_enter Try.func5, Try.ntmps5
  go_wp2_with fail
  refine (of_dk HA.out.1 HA.out.2.1 HA.out.2.2.1).mono ?_
  rintro e w1 ⟨rfl, hd0, hb1, hs1⟩
  have HD0 := Lib.hid (And.intro hd0 (And.intro hb1 hs1))
  clear hd0 hb1 hs1
  go_wp2_with fail
  refine (of_dk (B := B) (by have h1 := HA.out.1; have h2 := HD0.out.2.1.size; omega) (HA.out.2.2.2.1.below (HD0.out.2.1.mono HA.out.1)) HA.out.2.2.2.2).mono ?_
  rintro e w2 ⟨rfl, hd1, hb2, hs2⟩
  have HD1 := Lib.hid (And.intro hd1 (And.intro hb2 hs2))
  clear hd1 hb2 hs2
  go_wp2_with fail
  refine (pmade_any (M := 10) (d := w.heap.size) (c0 := 0) ((HD0.out.1.below HD1.out.2.1).deck (n := 0) (by omega)) (by omega) (by omega)).mono ?_
  rintro e w3 ⟨av, gv, tv, p, T, c', rfl, hM, -, -, hgr, o1, o2, o3⟩
  have HM := Lib.hid hM
  have HOK : Hid p.Ok := Lib.hid (hM.ok (by omega))
  have HLN := Lib.hid hM.lens
  have HK0 := Lib.hid (Mem.start2 HA.out.1 HA.out.2.2.2.1 HD0.out.2.1 HD0.out.2.2 HD1.out.1 HD1.out.2.1 HD1.out.2.2 (Int.le_refl _) hgr o1 o2 o3)
  obtain ⟨d1, hd1e⟩ : ∃ d1, d1 = w1.heap.size := ⟨_, rfl⟩
  obtain ⟨S, hSe⟩ : ∃ S, S = w2.heap.size := ⟨_, rfl⟩
  rw [← hd1e, ← hSe] at HK0
  obtain ⟨ha, hc, rfl⟩ : ∃ g cap, av = .slice (some ⟨g, 0, none⟩) p.ats.length cap := form_pos (r := rwI av p.ats.length p.ats) o1 (show 0 < p.ats.length by have := HLN.out; omega)
  obtain ⟨ga, gc, rfl⟩ : ∃ g cap, gv = .slice (some ⟨g, 0, none⟩) p.gr.length cap := form_pos (r := rwS gv p.gr.length p.gr) o2 (show 0 < p.gr.length by have := HLN.out; omega)
  obtain ⟨ta, tc, rfl⟩ : ∃ g cap, tv = .slice (some ⟨g, 0, none⟩) T.length cap := form_pos (r := rwI tv T.length T) o3 (show 0 < T.length by have := HLN.out; omega)
  simp only [← hd1e]
  clear hM hgr o1 o2 o3 hd1e hSe HD0 HD1 HA
  go_wp2_with fail
  have HK1 := Lib.hid (HK0.out.lay (.cells #[.slice (some ⟨ha, 0, none⟩) p.ats.length hc, .slice (some ⟨ga, 0, none⟩) p.gr.length gc, .int .i64 p.tall, .int .i64 p.lo, .int .i64 p.hi] 27))
  obtain ⟨q, hqe⟩ : ∃ q, q = w3.heap.size := ⟨_, rfl⟩
  simp only [← hqe] at HK1 ⊢
  generalize w3.alloc (.cells #[.slice (some ⟨ha, 0, none⟩) p.ats.length hc, .slice (some ⟨ga, 0, none⟩) p.gr.length gc, .int .i64 p.tall, .int .i64 p.lo, .int .i64 p.hi] 27) = w4 at HK1 ⊢
  clear HK0 hqe
  obtain ⟨b0, b1, b2, b3, b4⟩ := HK1.out.box5 (q := q) (a := .slice (some ⟨ha, 0, none⟩) p.ats.length hc) (b := .slice (some ⟨ga, 0, none⟩) p.gr.length gc) (e := .int .i64 p.tall) (f := .int .i64 p.lo) (g := .int .i64 p.hi) (t := 27) (by simp)
  have hl1 : (p.ats.length : Int) ≤ 10 := by have := HLN.out; omega
  have hl2 : 2 ≤ (p.ats.length : Int) := by have := HLN.out; omega
  go_wp2_with fail
  rw [IntWalk.wrap64_in ((p.ats.length : Int) - 1) (by omega)]
  refine (fold_any (v := a0) (n := (p.ats.length : Int) - 1) w4 (by omega)).mono ?_
  rintro e w' ⟨r, rfl, hr, rfl⟩
  obtain ⟨x, rfl⟩ : ∃ x : Nat, r = (x : Int) := ⟨r.toNat, by omega⟩
  have hx1 : (x : Int) < (p.ats.length : Int) - 1 := hr.2
  clear hr
  go_wp2_with fail
  refine (fold_any (v := a1) (n := (p.ats.length : Int) - 1 - (x : Int)) w' (by omega)).mono ?_
  rintro e w'' ⟨r, rfl, hr, rfl⟩
  obtain ⟨y, hy⟩ : ∃ y : Nat, (x : Int) + 1 + r = (y : Int) := ⟨((x : Int) + 1 + r).toNat, by omega⟩
  have HXY : Hid (x < y ∧ y < p.n) := Lib.hid (by have := HLN.out; omega)
  have hr1 := hr.1
  have hr2 := hr.2
  clear hr
  go_wp2_with fail
  try rw [hy]
  have HND : Hid (p.need x y ≤ 2000) := Lib.hid (need_bound HOK.out (fun k hk => by have := HM.out.h k hk; show (p.gr.getD k (0, 0)).2 ≤ 1100; omega) (by have := HM.out.bd; omega) (fun k hk => by have := HM.out.a0 k hk; have := HLN.out; have hk' : k < p.ats.length := hk; show p.ats.getD k 0 ≤ 4449; omega) HXY.out.1 HXY.out.2)
  have hxl : (x : Int) < 10 := by omega
  have hyl : (y : Int) < 10 := by have := HXY.out; have := HLN.out; omega
  clear hy hr1 hr2 hx1
  refine (Tall_any (B := w''.heap.size) (Nat.le_refl _) (HK1.out.rsI (v := .slice (some ⟨ha, 0, none⟩) p.ats.length hc) (n := p.ats.length) (by simp) rfl) (HK1.out.rsS (v := .slice (some ⟨ga, 0, none⟩) p.gr.length gc) (n := p.gr.length) (by simp) rfl)).mono ?_
  rintro e w5 ⟨rfl, hb⟩
  have HK2 := Lib.hid (HK1.out.grow hb)
  rw [tall_ok HOK.out HXY.out.1 HXY.out.2 HND.out]
  obtain ⟨n, hn⟩ : ∃ n, n = p.need x y := ⟨_, rfl⟩
  rw [← hn]
  have hn0 : 0 ≤ n := by rw [hn]; exact p.need_nonneg x y
  have hn2 : n ≤ 2000 := by rw [hn]; exact HND.out
  have HN := Lib.hid hn
  clear hn hb HK1 b0 b1 b2 b3 b4
  have dn : decide (n < 0) = false := by rw [decide_eq_false_iff_not]; omega
  go_wp2_with fail
  clear dn
  have HK3 := Lib.hid (HK2.out.lay (.cells #[.int .i64 n, .int .i64 (n - 1)] 3))
  obtain ⟨qt, hqe⟩ : ∃ q, q = w5.heap.size := ⟨_, rfl⟩
  simp only [← hqe] at HK3 ⊢
  generalize w5.alloc (.cells #[.int .i64 n, .int .i64 (n - 1)] 3) = w6 at HK3 ⊢
  clear HK2 hqe
  go_loopw [86] (fun i W => ∃ k : Nat, k ≤ 2 ∧ i = .int .i64 k ∧ Hid (Mem w S d1 0 [rwI (.slice (some ⟨ha, 0, none⟩) p.ats.length hc) p.ats.length p.ats, rwS (.slice (some ⟨ga, 0, none⟩) p.gr.length gc) p.gr.length p.gr, rwI (.slice (some ⟨ta, 0, none⟩) T.length tc) T.length T] [] ((qt, Obj.cells #[.int .i64 n, .int .i64 (n - 1)] 3 (0, 0)) :: [(q, Obj.cells #[.slice (some ⟨ha, 0, none⟩) p.ats.length hc, .slice (some ⟨ga, 0, none⟩) p.gr.length gc, .int .i64 p.tall, .int .i64 p.lo, .int .i64 p.hi] 27 (0, 0))]) W)) (fun i _ => 2 - (intOf i).toNat)
  case atStart => exact ⟨0, by omega, rfl, HK3⟩
  case round =>
    as_aux_lemma =>
      clear HK3
      obtain ⟨k, hk, rfl, HK⟩ := hrel
      by_cases hlt : k < 2
      · obtain ⟨tt, htt⟩ : ∃ tt, tt = (if k = 0 then n else n - 1) := ⟨_, rfl⟩
        have q0 : wr.cell? ⟨qt, k, none⟩ = some (.int .i64 tt) := by
          have h := HK.out.box2 (q := qt) (a := .int .i64 n) (b := .int .i64 (n - 1)) (t := 3) List.mem_cons_self
          have hc : k = 0 ∨ k = 1 := by omega
          rcases hc with rfl | rfl
          · rw [htt]; exact h.1
          · rw [htt]; exact h.2
        have HTT : Hid (tt ≤ n ∧ n - 1 ≤ tt) := Lib.hid (by rw [htt]; split <;> omega)
        have ht1 : -1 ≤ tt := by have := HTT.out; omega
        have ht2 : tt ≤ 2000 := by have := HTT.out; omega
        have hki : (k : Int) < 2 := by omega
        clear htt
        obtain ⟨b0, b1, b2, b3, b4⟩ := HK.out.box5 (q := q) (a := .slice (some ⟨ha, 0, none⟩) p.ats.length hc) (b := .slice (some ⟨ga, 0, none⟩) p.gr.length gc) (e := .int .i64 p.tall) (f := .int .i64 p.lo) (g := .int .i64 p.hi) (t := 27) (by simp)
        go_wp2_with fail
        refine (pclone_any (B := wr.heap.size) (ats := p.ats) (gr := p.gr) (Nat.le_refl _) (HK.out.rsI (v := .slice (some ⟨ha, 0, none⟩) p.ats.length hc) (n := p.ats.length) (by simp) rfl) (HK.out.rsS (v := .slice (some ⟨ga, 0, none⟩) p.gr.length gc) (n := p.gr.length) (by simp) rfl) (by have := HLN.out; omega) (by have := HLN.out; omega)).mono ?_
        rintro e w7 ⟨cv, dv, rfl, o1, o2, hb⟩
        have HKa := Lib.hid (HK.out.addRs hb (P := [rwI cv p.ats.length p.ats, rwS dv p.gr.length p.gr]) (fun r hr => by
          simp only [List.mem_cons, List.not_mem_nil, or_false] at hr
          rcases hr with rfl | rfl
          · exact o1
          · exact o2))
        obtain ⟨ca, cc, rfl⟩ : ∃ g cap, cv = .slice (some ⟨g, 0, none⟩) p.ats.length cap := form_pos (r := rwI (cv) p.ats.length p.ats) o1 (show 0 < p.ats.length by have := HLN.out; omega)
        obtain ⟨da, dc, rfl⟩ : ∃ g cap, dv = .slice (some ⟨g, 0, none⟩) p.gr.length cap := form_pos (r := rwS (dv) p.gr.length p.gr) o2 (show 0 < p.gr.length by have := HLN.out; omega)
        clear hb o1 o2 HK b0 b1 b2 b3 b4 q0
        go_upto_region 12 with (fail)
        have HKb := Lib.hid (HKa.out.lay (.cells #[.slice (some ⟨ca, 0, none⟩) p.ats.length cc, .slice (some ⟨da, 0, none⟩) p.gr.length dc, .int .i64 p.tall, .int .i64 p.lo, .int .i64 p.hi] 27))
        obtain ⟨qo, hqe⟩ : ∃ q, q = w7.heap.size := ⟨_, rfl⟩
        simp only [← hqe] at HKb ⊢
        generalize w7.alloc (.cells #[.slice (some ⟨ca, 0, none⟩) p.ats.length cc, .slice (some ⟨da, 0, none⟩) p.gr.length dc, .int .i64 p.tall, .int .i64 p.lo, .int .i64 p.hi] 27) = w8 at HKb ⊢
        clear HKa hqe
        obtain ⟨c0, c1, c2, c3, c4⟩ := HKb.out.box5 (q := qo) (a := .slice (some ⟨ca, 0, none⟩) p.ats.length cc) (b := .slice (some ⟨da, 0, none⟩) p.gr.length dc) (e := .int .i64 p.tall) (f := .int .i64 p.lo) (g := .int .i64 p.hi) (t := 27) (by simp)
        obtain ⟨f0, f1, f2, f3, f4⟩ := HKb.out.frz5 (q := qo) (t := 27) List.mem_cons_self
        go_upto_region 13 with (fail)
        have HKc : Hid (Mem w S d1 0 ([rwI (.slice (some ⟨ca, 0, none⟩) p.ats.length cc) p.ats.length p.ats, rwS (.slice (some ⟨da, 0, none⟩) p.gr.length dc) p.gr.length p.gr] ++ [rwI (.slice (some ⟨ha, 0, none⟩) p.ats.length hc) p.ats.length p.ats, rwS (.slice (some ⟨ga, 0, none⟩) p.gr.length gc) p.gr.length p.gr, rwI (.slice (some ⟨ta, 0, none⟩) T.length tc) T.length T]) [] ((qo, Obj.cells #[.slice (some ⟨ca, 0, none⟩) p.ats.length cc, .slice (some ⟨da, 0, none⟩) p.gr.length dc, .int .i64 tt, .int .i64 p.lo, .int .i64 p.hi] 27 (0, 0)) :: (qt, Obj.cells #[.int .i64 n, .int .i64 (n - 1)] 3 (0, 0)) :: [(q, Obj.cells #[.slice (some ⟨ha, 0, none⟩) p.ats.length hc, .slice (some ⟨ga, 0, none⟩) p.gr.length gc, .int .i64 p.tall, .int .i64 p.lo, .int .i64 p.hi] 27 (0, 0))]) (w8.setCell ⟨qo, 2, none⟩ (.int .i64 tt))) := Lib.hid (HKb.out.putX (X1 := []) 2 (.int .i64 tt))
        clear c0 c1 c2 c3 c4 f0 f1 f2 f3 f4 HKb
        generalize w8.setCell ⟨qo, 2, none⟩ (.int .i64 tt) = w9 at HKc ⊢
        by_cases htn : tt < 0
        · go_wp2
          go_roundw
          case rel => exact ⟨k + 1, by omega, by go_num, Lib.hid (HKc.out.less (fun _ h => List.mem_append_right _ h) (List.Sublist.refl _) (List.sublist_cons_self _ _))⟩
          case measure => simp [intOf]; omega
        · have dn : decide (tt < 0) = false := by rw [decide_eq_false_iff_not]; omega
          obtain ⟨c0, c1, c2, c3, c4⟩ := HKc.out.box5 (q := qo) (a := .slice (some ⟨ca, 0, none⟩) p.ats.length cc) (b := .slice (some ⟨da, 0, none⟩) p.gr.length dc) (e := .int .i64 tt) (f := .int .i64 p.lo) (g := .int .i64 p.hi) (t := 27) (by simp)
          go_wp2_with fail
          refine (Sees_any (p := p.at tt) (B := w9.heap.size) (Nat.le_refl _) (HKc.out.rsI (v := .slice (some ⟨ca, 0, none⟩) p.ats.length cc) (n := p.ats.length) (l := p.ats) (by simp) rfl) (HKc.out.rsS (v := .slice (some ⟨da, 0, none⟩) p.gr.length dc) (n := p.gr.length) (l := p.gr) (by simp) rfl)).mono ?_
          rintro e w10 ⟨rfl, hb⟩
          have HKd : Hid (Mem w S d1 0 [rwI (.slice (some ⟨ha, 0, none⟩) p.ats.length hc) p.ats.length p.ats, rwS (.slice (some ⟨ga, 0, none⟩) p.gr.length gc) p.gr.length p.gr, rwI (.slice (some ⟨ta, 0, none⟩) T.length tc) T.length T] [] ((qt, Obj.cells #[.int .i64 n, .int .i64 (n - 1)] 3 (0, 0)) :: [(q, Obj.cells #[.slice (some ⟨ha, 0, none⟩) p.ats.length hc, .slice (some ⟨ga, 0, none⟩) p.gr.length gc, .int .i64 p.tall, .int .i64 p.lo, .int .i64 p.hi] 27 (0, 0))]) w10) := Lib.hid ((HKc.out.grow hb).less (fun _ h => List.mem_append_right _ h) (List.Sublist.refl _) (List.sublist_cons_self _ _))
          have hse : (p.at tt).sure x y = (tt == n) := by
            rw [Bool.eq_iff_iff, need_law HOK.out HXY.out.1 HXY.out.2 (by omega), beq_iff_eq, ← HN.out]
            have := HTT.out
            omega
          rw [sees_ok (HOK.out.up_to ⟨by omega, ht2⟩) (show x < (p.at tt).n from Nat.lt_trans HXY.out.1 HXY.out.2) (show y < (p.at tt).n from HXY.out.2) (by have := HXY.out; omega), hse]
          have hne : ((tt == n) != (tt == n)) = false := by simp
          clear hb hse HKc c0 c1 c2 c3 c4 dn
          go_wp2
          go_roundw
          case rel => exact ⟨k + 1, by omega, by go_num, HKd⟩
          case measure => simp [intOf]; omega
      · have HK3 : Hid (Mem w S d1 0 [rwI (.slice (some ⟨ha, 0, none⟩) p.ats.length hc) p.ats.length p.ats, rwS (.slice (some ⟨ga, 0, none⟩) p.gr.length gc) p.gr.length p.gr, rwI (.slice (some ⟨ta, 0, none⟩) T.length tc) T.length T] [] [(q, Obj.cells #[.slice (some ⟨ha, 0, none⟩) p.ats.length hc, .slice (some ⟨ga, 0, none⟩) p.gr.length gc, .int .i64 p.tall, .int .i64 p.lo, .int .i64 p.hi] 27 (0, 0))] wr) := Lib.hid (HK.out.less (fun _ h => h) (List.Sublist.refl _) (List.sublist_cons_self _ _))
        have hk2 : ¬ (k : Int) < 2 := by omega
        clear HK hlt hk
        go_upto_region 18 with (fail)
        have hC : (fun W => W.cell? ⟨q, 0, none⟩ = some (.slice (some ⟨ha, 0, none⟩) p.ats.length hc) ∧ W.cell? ⟨q, 1, none⟩ = some (.slice (some ⟨ga, 0, none⟩) p.gr.length gc) ∧ W.cell? ⟨q, 2, none⟩ = some (.int .i64 p.tall) ∧ W.cell? ⟨q, 3, none⟩ = some (.int .i64 p.lo) ∧ W.cell? ⟨q, 4, none⟩ = some (.int .i64 p.hi)) wr.drew := HK3.out.drew.box5 (t := 27) (List.mem_singleton.2 rfl)
        refine Lim.regC' (fun W => W.cell? ⟨q, 0, none⟩ = some (.slice (some ⟨ha, 0, none⟩) p.ats.length hc) ∧ W.cell? ⟨q, 1, none⟩ = some (.slice (some ⟨ga, 0, none⟩) p.gr.length gc) ∧ W.cell? ⟨q, 2, none⟩ = some (.int .i64 p.tall) ∧ W.cell? ⟨q, 3, none⟩ = some (.int .i64 p.lo) ∧ W.cell? ⟨q, 4, none⟩ = some (.int .i64 p.hi)) [] #[false, false, false, false, false, false, false, false, false, false, false, false] (by kernel_rfl) rfl ?_
        refine Lim.stepR 0 (fun _ => trivial) rfl (by kernel_rfl) (fun _ _ _ _ h => h) hC rfl ?_; apply Exists.intro; refine ⟨?_, ?_⟩
        · rintro w ⟨r0, r1, r2, r3, r4⟩; go_simp; try with_reducible rfl
        simp only [Act.put, List.setIfInBounds_toArray, List.set_cons_succ, List.set_cons_zero]
        refine Lim.stepR 2 (fun _ => trivial) rfl (by kernel_rfl) (fun _ _ _ _ h => h) hC rfl ?_; apply Exists.intro; refine ⟨?_, ?_⟩
        · rintro w ⟨r0, r1, r2, r3, r4⟩; go_simp; try with_reducible rfl
        simp only [Act.put, List.setIfInBounds_toArray, List.set_cons_succ, List.set_cons_zero]
        refine Lim.stepR 4 (fun _ => trivial) rfl (by kernel_rfl) (fun _ _ _ _ h => h) hC rfl ?_; apply Exists.intro; refine ⟨?_, ?_⟩
        · rintro w ⟨r0, r1, r2, r3, r4⟩; go_simp; try with_reducible rfl
        simp only [Act.put, List.setIfInBounds_toArray, List.set_cons_succ, List.set_cons_zero]
        refine Lim.parC [1, 3, 5, 6, 7, 8, 9, 10, 11] (fun done a W => ∃ x115 x117 x119 x25 x26 x27 f1 f2 t1 t2 h1 h2 pf pt ph, a = { tmps := #[Value.slice na ns.length nc, Value.slice ua ts.length uc, Value.int IntKind.i64 a0, Value.int IntKind.i64 a1, Value.int IntKind.i64 a2, undef, undef, undef, undef, undef, u10, Value.pointer (some ⟨w.heap.size, 0, none⟩), Value.pointer (some ⟨d1, 0, none⟩), Value.pointer (some ⟨q, 0, none⟩), Value.slice (some ⟨ta, 0, none⟩) T.length tc, Value.int IntKind.i64 x, Value.int IntKind.i64 y, Value.int IntKind.i64 n, Value.int IntKind.i64 0, undef, u20, u21, u22, u23, u24, x25, x26, x27, undef, undef, undef, undef, undef, undef, undef, undef, undef, undef, undef, undef, undef, undef, Value.slice na ns.length nc, Value.pointer (some ⟨w.heap.size, 0, none⟩), Value.slice ua ts.length uc, Value.pointer (some ⟨d1, 0, none⟩), Value.tuple #[Value.agg #[Value.slice (some ⟨ha, 0, none⟩) p.ats.length hc, Value.slice (some ⟨ga, 0, none⟩) p.gr.length gc, Value.int IntKind.i64 p.tall, Value.int IntKind.i64 p.lo, Value.int IntKind.i64 p.hi], Value.slice (some ⟨ta, 0, none⟩) T.length tc], Value.pointer (some ⟨w.heap.size, 0, none⟩), Value.tuple #[Value.agg #[Value.slice (some ⟨ha, 0, none⟩) p.ats.length hc, Value.slice (some ⟨ga, 0, none⟩) p.gr.length gc, Value.int IntKind.i64 p.tall, Value.int IntKind.i64 p.lo, Value.int IntKind.i64 p.hi], Value.slice (some ⟨ta, 0, none⟩) T.length tc], Value.agg #[Value.slice (some ⟨ha, 0, none⟩) p.ats.length hc, Value.slice (some ⟨ga, 0, none⟩) p.gr.length gc, Value.int IntKind.i64 p.tall, Value.int IntKind.i64 p.lo, Value.int IntKind.i64 p.hi], Value.slice (some ⟨ta, 0, none⟩) T.length tc, Value.int IntKind.i64 a0, Value.pointer (some ⟨q, 0, none⟩), Value.slice (some ⟨ha, 0, none⟩) p.ats.length hc, Value.int IntKind.i64 p.ats.length, Value.int IntKind.i64 (p.ats.length - 1), Value.int IntKind.i64 x, Value.int IntKind.i64 x, Value.int IntKind.i64 (x + 1), Value.int IntKind.i64 a1, Value.pointer (some ⟨q, 0, none⟩), Value.slice (some ⟨ha, 0, none⟩) p.ats.length hc, Value.int IntKind.i64 p.ats.length, Value.int IntKind.i64 (p.ats.length - 1), Value.int IntKind.i64 x, Value.int IntKind.i64 (p.ats.length - 1 - x), Value.int IntKind.i64 r, Value.int IntKind.i64 y, Value.tuple #[Value.int IntKind.i64 n, Value.int IntKind.i64 0], Value.agg #[Value.slice (some ⟨ha, 0, none⟩) p.ats.length hc, Value.slice (some ⟨ga, 0, none⟩) p.gr.length gc, Value.int IntKind.i64 p.tall, Value.int IntKind.i64 p.lo, Value.int IntKind.i64 p.hi], Value.int IntKind.i64 x, Value.int IntKind.i64 y, Value.tuple #[Value.int IntKind.i64 n, Value.int IntKind.i64 0], Value.int IntKind.i64 n, Value.int IntKind.i64 0, Value.int IntKind.i64 0, Value.bool false, Value.bool false, Value.int IntKind.i64 n, Value.bool false, Value.bool false, Value.int IntKind.i64 n, Value.int IntKind.i64 n, Value.int IntKind.i64 (n - 1), Value.slice (some ⟨qt, 0, none⟩) 2 2, Value.int IntKind.i64 2, Value.int IntKind.i64 k, Value.bool false, u88, u89, u90, u91, u92, u93, u94, u95, u96, u97, u98, u99, u100, u101, u102, u103, u104, u105, u106, u107, u108, u109, u110, u111, u112, u113, Value.agg #[Value.slice (some ⟨ha, 0, none⟩) p.ats.length hc, Value.slice (some ⟨ga, 0, none⟩) p.gr.length gc, Value.int IntKind.i64 p.tall, Value.int IntKind.i64 p.lo, Value.int IntKind.i64 p.hi], x115, Value.agg #[Value.slice (some ⟨ha, 0, none⟩) p.ats.length hc, Value.slice (some ⟨ga, 0, none⟩) p.gr.length gc, Value.int IntKind.i64 p.tall, Value.int IntKind.i64 p.lo, Value.int IntKind.i64 p.hi], x117, Value.agg #[Value.slice (some ⟨ha, 0, none⟩) p.ats.length hc, Value.slice (some ⟨ga, 0, none⟩) p.gr.length gc, Value.int IntKind.i64 p.tall, Value.int IntKind.i64 p.lo, Value.int IntKind.i64 p.hi], x119, undef, undef, undef, undef, undef, undef, undef, undef, undef, undef, undef, undef, undef, undef, undef, undef, undef, undef, undef, undef, undef, undef, undef, undef, undef, undef, undef, undef, undef, undef, undef, undef, undef, undef, undef, undef, undef, undef, undef, undef, undef, undef, undef, undef, undef, undef, undef, undef, undef, undef, undef, undef, undef, undef, undef, undef, undef, undef, undef, undef, undef, undef, undef, undef, undef, undef, undef, undef, undef, undef, undef, undef, undef, undef, undef, undef, undef, undef, undef, undef, undef, undef, undef, undef, undef, undef, undef, undef, undef, undef, undef, undef, undef, undef, undef, undef, undef, undef, undef, undef, undef, undef, undef, undef, undef, undef, undef, undef, undef, undef, undef, undef, undef, undef, undef, undef, undef, undef, undef, undef, undef, undef, undef, undef, undef, undef, undef, undef, undef, undef, undef, undef, undef, undef, undef, undef, undef, undef, undef, undef, undef, undef, undef, undef, undef, undef, undef, undef, undef, undef, undef, undef, undef, undef, undef, undef, undef, undef, undef, undef, undef, undef, undef, undef], defers := [] } ∧ Mem w S d1 0 [rwI (.slice (some ⟨ha, 0, none⟩) p.ats.length hc) p.ats.length p.ats, rwS (.slice (some ⟨ga, 0, none⟩) p.gr.length gc) p.gr.length p.gr, rwI (.slice (some ⟨ta, 0, none⟩) T.length tc) T.length T] (onP (done 1) (rwI f1 p.ats.length p.ats) (rwS f2 p.gr.length p.gr) ++ (onP (done 3) (rwI t1 p.ats.length p.ats) (rwS t2 p.gr.length p.gr) ++ (onP (done 5) (rwI h1 p.ats.length p.ats) (rwS h2 p.gr.length p.gr) ++ ([])))) (onX (done 6) pf (cond (done 9) (prof5 p f1 f2) zero5) ++ (onX (done 7) pt (cond (done 10) (prof5 p t1 t2) zero5) ++ (onX (done 8) ph (cond (done 11) (prof5 p h1 h2) zero5) ++ ([(q, Obj.cells #[.slice (some ⟨ha, 0, none⟩) p.ats.length hc, .slice (some ⟨ga, 0, none⟩) p.gr.length gc, .int .i64 p.tall, .int .i64 p.lo, .int .i64 p.hi] 27 (0, 0))])))) W ∧ (done 1 = true → x115 = .agg #[f1, f2, .int .i64 p.tall, .int .i64 p.lo, .int .i64 p.hi]) ∧ (done 3 = true → x117 = .agg #[t1, t2, .int .i64 p.tall, .int .i64 p.lo, .int .i64 p.hi]) ∧ (done 5 = true → x119 = .agg #[h1, h2, .int .i64 p.tall, .int .i64 p.lo, .int .i64 p.hi]) ∧ (done 6 = true → x25 = .pointer (some ⟨pf, 0, none⟩)) ∧ (done 7 = true → x26 = .pointer (some ⟨pt, 0, none⟩)) ∧ (done 8 = true → x27 = .pointer (some ⟨ph, 0, none⟩)) ∧ (done 9 = true → done 1 = true ∧ done 6 = true) ∧ (done 10 = true → done 3 = true ∧ done 7 = true) ∧ (done 11 = true → done 5 = true ∧ done 8 = true)) (fun _ => trivial) (by kernel_rfl) rfl rfl ?hC ?step ?fin ⟨_, _, _, _, _, _, undef, undef, undef, undef, undef, undef, 0, 0, 0, rfl, HK3.out.drew, fun h => (by cases h), fun h => (by cases h), fun h => (by cases h), fun h => (by cases h), fun h => (by cases h), fun h => (by cases h), fun h => (by cases h), fun h => (by cases h), fun h => (by cases h)⟩
        case hC =>
          rintro done a W ⟨x115, x117, x119, x25, x26, x27, f1, f2, t1, t2, h1, h2, pf, pt, ph, rfl, H, e1, e3, e5, e6, e7, e8, e9, e10, e11⟩
          exact H.box5 (q := q) (t := 27) (by simp)
        case step =>
          intro i o hi ho done a W hd hdep hS K hK
          obtain ⟨x115, x117, x119, x25, x26, x27, f1, f2, t1, t2, h1, h2, pf, pt, ph, rfl, H, e1, e3, e5, e6, e7, e8, e9, e10, e11⟩ := hS
          simp only [List.mem_cons, List.not_mem_nil, or_false] at hi
          rcases hi with rfl | rfl | rfl | rfl | rfl | rfl | rfl | rfl | rfl
          · cases ho
            clear hdep
            have n9 : done 9 = false := by
              cases h : done 9 with
              | false => rfl
              | true => exact absurd (e9 h).1 (by rw [hd]; decide)
            rw [onP_no hd, n9] at H
            have hxq : (q, Obj.cells #[.slice (some ⟨ha, 0, none⟩) p.ats.length hc, .slice (some ⟨ga, 0, none⟩) p.gr.length gc, .int .i64 p.tall, .int .i64 p.lo, .int .i64 p.hi] 27 (0, 0)) ∈ [(q, Obj.cells #[.slice (some ⟨ha, 0, none⟩) p.ats.length hc, .slice (some ⟨ga, 0, none⟩) p.gr.length gc, .int .i64 p.tall, .int .i64 p.lo, .int .i64 p.hi] 27 (0, 0))] := List.mem_singleton.2 rfl
            go_simp
            refine ⟨rfl, (callsIn_wide.2 (pclone_any (B := W.heap.size) (ats := p.ats) (gr := p.gr) (Nat.le_refl _) (H.rsI (v := .slice (some ⟨ha, 0, none⟩) p.ats.length hc) (n := p.ats.length) (.inl (by simp)) rfl) (H.rsS (v := .slice (some ⟨ga, 0, none⟩) p.gr.length gc) (n := p.gr.length) (.inl (by simp)) rfl) (by have := HLN.out; omega) (by have := HLN.out; omega))).mono ?_⟩
            rintro e W' ⟨cv, dv, rfl, o1, o2, hb⟩
            refine hK _ _ ?_
            refine ⟨_, x117, x119, x25, x26, x27, cv, dv, t1, t2, h1, h2, pf, pt, ph, rfl, ?_, fun _ => rfl, e3, e5, e6, e7, e8, fun h => ⟨rfl, (e9 h).2⟩, e10, e11⟩
            show Mem w S d1 0 [rwI (.slice (some ⟨ha, 0, none⟩) p.ats.length hc) p.ats.length p.ats, rwS (.slice (some ⟨ga, 0, none⟩) p.gr.length gc) p.gr.length p.gr, rwI (.slice (some ⟨ta, 0, none⟩) T.length tc) T.length T] (onP (true) (rwI cv p.ats.length p.ats) (rwS dv p.gr.length p.gr) ++ (onP (done 3) (rwI t1 p.ats.length p.ats) (rwS t2 p.gr.length p.gr) ++ (onP (done 5) (rwI h1 p.ats.length p.ats) (rwS h2 p.gr.length p.gr) ++ ([])))) (onX (done 6) pf (cond (done 9) (prof5 p cv dv) zero5) ++ (onX (done 7) pt (cond (done 10) (prof5 p t1 t2) zero5) ++ (onX (done 8) ph (cond (done 11) (prof5 p h1 h2) zero5) ++ ([(q, Obj.cells #[.slice (some ⟨ha, 0, none⟩) p.ats.length hc, .slice (some ⟨ga, 0, none⟩) p.gr.length gc, .int .i64 p.tall, .int .i64 p.lo, .int .i64 p.hi] 27 (0, 0))])))) W'
            rw [n9]
            exact Mem.ins2 (r := rwI cv p.ats.length p.ats) (s := rwS dv p.gr.length p.gr) (Q1 := []) H hb o1 o2 (by show 3 ≠ 25; decide)
          · cases ho
            clear hdep
            have n10 : done 10 = false := by
              cases h : done 10 with
              | false => rfl
              | true => exact absurd (e10 h).1 (by rw [hd]; decide)
            rw [onP_no hd, n10] at H
            have hxq : (q, Obj.cells #[.slice (some ⟨ha, 0, none⟩) p.ats.length hc, .slice (some ⟨ga, 0, none⟩) p.gr.length gc, .int .i64 p.tall, .int .i64 p.lo, .int .i64 p.hi] 27 (0, 0)) ∈ [(q, Obj.cells #[.slice (some ⟨ha, 0, none⟩) p.ats.length hc, .slice (some ⟨ga, 0, none⟩) p.gr.length gc, .int .i64 p.tall, .int .i64 p.lo, .int .i64 p.hi] 27 (0, 0))] := List.mem_singleton.2 rfl
            go_simp
            refine ⟨rfl, (callsIn_wide.2 (pclone_any (B := W.heap.size) (ats := p.ats) (gr := p.gr) (Nat.le_refl _) (H.rsI (v := .slice (some ⟨ha, 0, none⟩) p.ats.length hc) (n := p.ats.length) (.inl (by simp)) rfl) (H.rsS (v := .slice (some ⟨ga, 0, none⟩) p.gr.length gc) (n := p.gr.length) (.inl (by simp)) rfl) (by have := HLN.out; omega) (by have := HLN.out; omega))).mono ?_⟩
            rintro e W' ⟨cv, dv, rfl, o1, o2, hb⟩
            refine hK _ _ ?_
            refine ⟨x115, _, x119, x25, x26, x27, f1, f2, cv, dv, h1, h2, pf, pt, ph, rfl, ?_, e1, fun _ => rfl, e5, e6, e7, e8, e9, fun h => ⟨rfl, (e10 h).2⟩, e11⟩
            show Mem w S d1 0 [rwI (.slice (some ⟨ha, 0, none⟩) p.ats.length hc) p.ats.length p.ats, rwS (.slice (some ⟨ga, 0, none⟩) p.gr.length gc) p.gr.length p.gr, rwI (.slice (some ⟨ta, 0, none⟩) T.length tc) T.length T] (onP (done 1) (rwI f1 p.ats.length p.ats) (rwS f2 p.gr.length p.gr) ++ (onP (true) (rwI cv p.ats.length p.ats) (rwS dv p.gr.length p.gr) ++ (onP (done 5) (rwI h1 p.ats.length p.ats) (rwS h2 p.gr.length p.gr) ++ ([])))) (onX (done 6) pf (cond (done 9) (prof5 p f1 f2) zero5) ++ (onX (done 7) pt (cond (done 10) (prof5 p cv dv) zero5) ++ (onX (done 8) ph (cond (done 11) (prof5 p h1 h2) zero5) ++ ([(q, Obj.cells #[.slice (some ⟨ha, 0, none⟩) p.ats.length hc, .slice (some ⟨ga, 0, none⟩) p.gr.length gc, .int .i64 p.tall, .int .i64 p.lo, .int .i64 p.hi] 27 (0, 0))])))) W'
            rw [n10]
            exact Mem.ins2 (r := rwI cv p.ats.length p.ats) (s := rwS dv p.gr.length p.gr) (Q1 := onP (done 1) (rwI f1 p.ats.length p.ats) (rwS f2 p.gr.length p.gr)) H hb o1 o2 (by show 3 ≠ 25; decide)
          · cases ho
            clear hdep
            have n11 : done 11 = false := by
              cases h : done 11 with
              | false => rfl
              | true => exact absurd (e11 h).1 (by rw [hd]; decide)
            rw [onP_no hd, n11] at H
            have hxq : (q, Obj.cells #[.slice (some ⟨ha, 0, none⟩) p.ats.length hc, .slice (some ⟨ga, 0, none⟩) p.gr.length gc, .int .i64 p.tall, .int .i64 p.lo, .int .i64 p.hi] 27 (0, 0)) ∈ [(q, Obj.cells #[.slice (some ⟨ha, 0, none⟩) p.ats.length hc, .slice (some ⟨ga, 0, none⟩) p.gr.length gc, .int .i64 p.tall, .int .i64 p.lo, .int .i64 p.hi] 27 (0, 0))] := List.mem_singleton.2 rfl
            go_simp
            refine ⟨rfl, (callsIn_wide.2 (pclone_any (B := W.heap.size) (ats := p.ats) (gr := p.gr) (Nat.le_refl _) (H.rsI (v := .slice (some ⟨ha, 0, none⟩) p.ats.length hc) (n := p.ats.length) (.inl (by simp)) rfl) (H.rsS (v := .slice (some ⟨ga, 0, none⟩) p.gr.length gc) (n := p.gr.length) (.inl (by simp)) rfl) (by have := HLN.out; omega) (by have := HLN.out; omega))).mono ?_⟩
            rintro e W' ⟨cv, dv, rfl, o1, o2, hb⟩
            refine hK _ _ ?_
            refine ⟨x115, x117, _, x25, x26, x27, f1, f2, t1, t2, cv, dv, pf, pt, ph, rfl, ?_, e1, e3, fun _ => rfl, e6, e7, e8, e9, e10, fun h => ⟨rfl, (e11 h).2⟩⟩
            show Mem w S d1 0 [rwI (.slice (some ⟨ha, 0, none⟩) p.ats.length hc) p.ats.length p.ats, rwS (.slice (some ⟨ga, 0, none⟩) p.gr.length gc) p.gr.length p.gr, rwI (.slice (some ⟨ta, 0, none⟩) T.length tc) T.length T] (onP (done 1) (rwI f1 p.ats.length p.ats) (rwS f2 p.gr.length p.gr) ++ (onP (done 3) (rwI t1 p.ats.length p.ats) (rwS t2 p.gr.length p.gr) ++ (onP (true) (rwI cv p.ats.length p.ats) (rwS dv p.gr.length p.gr) ++ ([])))) (onX (done 6) pf (cond (done 9) (prof5 p f1 f2) zero5) ++ (onX (done 7) pt (cond (done 10) (prof5 p t1 t2) zero5) ++ (onX (done 8) ph (cond (done 11) (prof5 p cv dv) zero5) ++ ([(q, Obj.cells #[.slice (some ⟨ha, 0, none⟩) p.ats.length hc, .slice (some ⟨ga, 0, none⟩) p.gr.length gc, .int .i64 p.tall, .int .i64 p.lo, .int .i64 p.hi] 27 (0, 0))])))) W'
            rw [n11]
            exact (Mem.ins2 (r := rwI cv p.ats.length p.ats) (s := rwS dv p.gr.length p.gr) (Q1 := onP (done 1) (rwI f1 p.ats.length p.ats) (rwS f2 p.gr.length p.gr) ++ onP (done 3) (rwI t1 p.ats.length p.ats) (rwS t2 p.gr.length p.gr)) H.assocQ hb o1 o2 (by show 3 ≠ 25; decide)).unassocQ
          · cases ho
            clear hdep
            have n9 : done 9 = false := by
              cases h : done 9 with
              | false => rfl
              | true => exact absurd (e9 h).2 (by rw [hd]; decide)
            rw [onX_no hd] at H
            go_simp
            refine hK _ _ ?_
            refine ⟨x115, x117, x119, _, x26, x27, f1, f2, t1, t2, h1, h2, W.heap.size, pt, ph, rfl, ?_, e1, e3, e5, fun _ => rfl, e7, e8, fun h => ⟨(e9 h).1, rfl⟩, e10, e11⟩
            show Mem w S d1 0 [rwI (.slice (some ⟨ha, 0, none⟩) p.ats.length hc) p.ats.length p.ats, rwS (.slice (some ⟨ga, 0, none⟩) p.gr.length gc) p.gr.length p.gr, rwI (.slice (some ⟨ta, 0, none⟩) T.length tc) T.length T] (onP (done 1) (rwI f1 p.ats.length p.ats) (rwS f2 p.gr.length p.gr) ++ (onP (done 3) (rwI t1 p.ats.length p.ats) (rwS t2 p.gr.length p.gr) ++ (onP (done 5) (rwI h1 p.ats.length p.ats) (rwS h2 p.gr.length p.gr) ++ ([])))) (onX (true) W.heap.size (cond (done 9) (prof5 p f1 f2) zero5) ++ (onX (done 7) pt (cond (done 10) (prof5 p t1 t2) zero5) ++ (onX (done 8) ph (cond (done 11) (prof5 p h1 h2) zero5) ++ ([(q, Obj.cells #[.slice (some ⟨ha, 0, none⟩) p.ats.length hc, .slice (some ⟨ga, 0, none⟩) p.gr.length gc, .int .i64 p.tall, .int .i64 p.lo, .int .i64 p.hi] 27 (0, 0))])))) (W.alloc zero5)
            rw [n9]
            exact Mem.insX (X1 := []) H zero5
          · cases ho
            clear hdep
            have n10 : done 10 = false := by
              cases h : done 10 with
              | false => rfl
              | true => exact absurd (e10 h).2 (by rw [hd]; decide)
            rw [onX_no hd] at H
            go_simp
            refine hK _ _ ?_
            refine ⟨x115, x117, x119, x25, _, x27, f1, f2, t1, t2, h1, h2, pf, W.heap.size, ph, rfl, ?_, e1, e3, e5, e6, fun _ => rfl, e8, e9, fun h => ⟨(e10 h).1, rfl⟩, e11⟩
            show Mem w S d1 0 [rwI (.slice (some ⟨ha, 0, none⟩) p.ats.length hc) p.ats.length p.ats, rwS (.slice (some ⟨ga, 0, none⟩) p.gr.length gc) p.gr.length p.gr, rwI (.slice (some ⟨ta, 0, none⟩) T.length tc) T.length T] (onP (done 1) (rwI f1 p.ats.length p.ats) (rwS f2 p.gr.length p.gr) ++ (onP (done 3) (rwI t1 p.ats.length p.ats) (rwS t2 p.gr.length p.gr) ++ (onP (done 5) (rwI h1 p.ats.length p.ats) (rwS h2 p.gr.length p.gr) ++ ([])))) (onX (done 6) pf (cond (done 9) (prof5 p f1 f2) zero5) ++ (onX (true) W.heap.size (cond (done 10) (prof5 p t1 t2) zero5) ++ (onX (done 8) ph (cond (done 11) (prof5 p h1 h2) zero5) ++ ([(q, Obj.cells #[.slice (some ⟨ha, 0, none⟩) p.ats.length hc, .slice (some ⟨ga, 0, none⟩) p.gr.length gc, .int .i64 p.tall, .int .i64 p.lo, .int .i64 p.hi] 27 (0, 0))])))) (W.alloc zero5)
            rw [n10]
            exact Mem.insX (X1 := onX (done 6) pf (cond (done 9) (prof5 p f1 f2) zero5)) H zero5
          · cases ho
            clear hdep
            have n11 : done 11 = false := by
              cases h : done 11 with
              | false => rfl
              | true => exact absurd (e11 h).2 (by rw [hd]; decide)
            rw [onX_no hd] at H
            go_simp
            refine hK _ _ ?_
            refine ⟨x115, x117, x119, x25, x26, _, f1, f2, t1, t2, h1, h2, pf, pt, W.heap.size, rfl, ?_, e1, e3, e5, e6, e7, fun _ => rfl, e9, e10, fun h => ⟨(e11 h).1, rfl⟩⟩
            show Mem w S d1 0 [rwI (.slice (some ⟨ha, 0, none⟩) p.ats.length hc) p.ats.length p.ats, rwS (.slice (some ⟨ga, 0, none⟩) p.gr.length gc) p.gr.length p.gr, rwI (.slice (some ⟨ta, 0, none⟩) T.length tc) T.length T] (onP (done 1) (rwI f1 p.ats.length p.ats) (rwS f2 p.gr.length p.gr) ++ (onP (done 3) (rwI t1 p.ats.length p.ats) (rwS t2 p.gr.length p.gr) ++ (onP (done 5) (rwI h1 p.ats.length p.ats) (rwS h2 p.gr.length p.gr) ++ ([])))) (onX (done 6) pf (cond (done 9) (prof5 p f1 f2) zero5) ++ (onX (done 7) pt (cond (done 10) (prof5 p t1 t2) zero5) ++ (onX (true) W.heap.size (cond (done 11) (prof5 p h1 h2) zero5) ++ ([(q, Obj.cells #[.slice (some ⟨ha, 0, none⟩) p.ats.length hc, .slice (some ⟨ga, 0, none⟩) p.gr.length gc, .int .i64 p.tall, .int .i64 p.lo, .int .i64 p.hi] 27 (0, 0))])))) (W.alloc zero5)
            rw [n11]
            exact (Mem.insX (X1 := onX (done 6) pf (cond (done 9) (prof5 p f1 f2) zero5) ++ onX (done 7) pt (cond (done 10) (prof5 p t1 t2) zero5)) H.assocX zero5).unassocX
          · cases ho
            have hcl := hdep 1 (by kernel_rfl) (by simp)
            have hl := hdep 6 (by kernel_rfl) (by simp)
            clear hdep
            obtain rfl := e1 hcl
            obtain rfl := e6 hl
            obtain ⟨ga1, ca1, rfl⟩ : ∃ g cap, f1 = .slice (some ⟨g, 0, none⟩) p.ats.length cap := form_pos (r := rwI f1 p.ats.length p.ats) (H.q _ (by rw [onP_yes hcl]; simp)) (show 0 < p.ats.length by have := HLN.out; omega)
            obtain ⟨ga2, ca2, rfl⟩ : ∃ g cap, f2 = .slice (some ⟨g, 0, none⟩) p.gr.length cap := form_pos (r := rwS f2 p.gr.length p.gr) (H.q _ (by rw [onP_yes hcl]; simp)) (show 0 < p.gr.length by have := HLN.out; omega)
            rw [onX_yes hl, hd] at H
            obtain ⟨⟨z0, z1, z2, z3, z4⟩, y0, y1, y2, y3, y4⟩ := five_cells (show W.heap[pf]? = some (.cells #[.slice none 0 0, .slice none 0 0, .int .i64 0, .int .i64 0, .int .i64 0] 27 (0, 0)) from (H.x (pf, zero5) (by simp)).2)
            go_simp
            clear z0 z1 z2 z3 z4 y0 y1 y2 y3 y4
            refine hK _ _ ?_
            refine ⟨_, x117, x119, _, x26, x27, .slice (some ⟨ga1, 0, none⟩) p.ats.length ca1, .slice (some ⟨ga2, 0, none⟩) p.gr.length ca2, t1, t2, h1, h2, pf, pt, ph, rfl, ?_, fun _ => rfl, e3, e5, fun _ => rfl, e7, e8, fun _ => ⟨hcl, hl⟩, e10, e11⟩
            show Mem w S d1 0 [rwI (.slice (some ⟨ha, 0, none⟩) p.ats.length hc) p.ats.length p.ats, rwS (.slice (some ⟨ga, 0, none⟩) p.gr.length gc) p.gr.length p.gr, rwI (.slice (some ⟨ta, 0, none⟩) T.length tc) T.length T] (onP (done 1) (rwI (.slice (some ⟨ga1, 0, none⟩) p.ats.length ca1) p.ats.length p.ats) (rwS (.slice (some ⟨ga2, 0, none⟩) p.gr.length ca2) p.gr.length p.gr) ++ (onP (done 3) (rwI t1 p.ats.length p.ats) (rwS t2 p.gr.length p.gr) ++ (onP (done 5) (rwI h1 p.ats.length p.ats) (rwS h2 p.gr.length p.gr) ++ ([])))) (onX (done 6) pf (cond (true) (prof5 p (.slice (some ⟨ga1, 0, none⟩) p.ats.length ca1) (.slice (some ⟨ga2, 0, none⟩) p.gr.length ca2)) zero5) ++ (onX (done 7) pt (cond (done 10) (prof5 p t1 t2) zero5) ++ (onX (done 8) ph (cond (done 11) (prof5 p h1 h2) zero5) ++ ([(q, Obj.cells #[.slice (some ⟨ha, 0, none⟩) p.ats.length hc, .slice (some ⟨ga, 0, none⟩) p.gr.length gc, .int .i64 p.tall, .int .i64 p.lo, .int .i64 p.hi] 27 (0, 0))])))) _
            rw [onX_yes hl]
            exact Mem.put5 (X1 := []) H _ _ _ _ _
          · cases ho
            have hcl := hdep 3 (by kernel_rfl) (by simp)
            have hl := hdep 7 (by kernel_rfl) (by simp)
            clear hdep
            obtain rfl := e3 hcl
            obtain rfl := e7 hl
            obtain ⟨ga1, ca1, rfl⟩ : ∃ g cap, t1 = .slice (some ⟨g, 0, none⟩) p.ats.length cap := form_pos (r := rwI t1 p.ats.length p.ats) (H.q _ (by rw [onP_yes hcl]; simp)) (show 0 < p.ats.length by have := HLN.out; omega)
            obtain ⟨ga2, ca2, rfl⟩ : ∃ g cap, t2 = .slice (some ⟨g, 0, none⟩) p.gr.length cap := form_pos (r := rwS t2 p.gr.length p.gr) (H.q _ (by rw [onP_yes hcl]; simp)) (show 0 < p.gr.length by have := HLN.out; omega)
            rw [onX_yes hl, hd] at H
            obtain ⟨⟨z0, z1, z2, z3, z4⟩, y0, y1, y2, y3, y4⟩ := five_cells (show W.heap[pt]? = some (.cells #[.slice none 0 0, .slice none 0 0, .int .i64 0, .int .i64 0, .int .i64 0] 27 (0, 0)) from (H.x (pt, zero5) (by simp)).2)
            go_simp
            clear z0 z1 z2 z3 z4 y0 y1 y2 y3 y4
            refine hK _ _ ?_
            refine ⟨x115, _, x119, x25, _, x27, f1, f2, .slice (some ⟨ga1, 0, none⟩) p.ats.length ca1, .slice (some ⟨ga2, 0, none⟩) p.gr.length ca2, h1, h2, pf, pt, ph, rfl, ?_, e1, fun _ => rfl, e5, e6, fun _ => rfl, e8, e9, fun _ => ⟨hcl, hl⟩, e11⟩
            show Mem w S d1 0 [rwI (.slice (some ⟨ha, 0, none⟩) p.ats.length hc) p.ats.length p.ats, rwS (.slice (some ⟨ga, 0, none⟩) p.gr.length gc) p.gr.length p.gr, rwI (.slice (some ⟨ta, 0, none⟩) T.length tc) T.length T] (onP (done 1) (rwI f1 p.ats.length p.ats) (rwS f2 p.gr.length p.gr) ++ (onP (done 3) (rwI (.slice (some ⟨ga1, 0, none⟩) p.ats.length ca1) p.ats.length p.ats) (rwS (.slice (some ⟨ga2, 0, none⟩) p.gr.length ca2) p.gr.length p.gr) ++ (onP (done 5) (rwI h1 p.ats.length p.ats) (rwS h2 p.gr.length p.gr) ++ ([])))) (onX (done 6) pf (cond (done 9) (prof5 p f1 f2) zero5) ++ (onX (done 7) pt (cond (true) (prof5 p (.slice (some ⟨ga1, 0, none⟩) p.ats.length ca1) (.slice (some ⟨ga2, 0, none⟩) p.gr.length ca2)) zero5) ++ (onX (done 8) ph (cond (done 11) (prof5 p h1 h2) zero5) ++ ([(q, Obj.cells #[.slice (some ⟨ha, 0, none⟩) p.ats.length hc, .slice (some ⟨ga, 0, none⟩) p.gr.length gc, .int .i64 p.tall, .int .i64 p.lo, .int .i64 p.hi] 27 (0, 0))])))) _
            rw [onX_yes hl]
            exact Mem.put5 (X1 := onX (done 6) pf (cond (done 9) (prof5 p f1 f2) zero5)) H _ _ _ _ _
          · cases ho
            have hcl := hdep 5 (by kernel_rfl) (by simp)
            have hl := hdep 8 (by kernel_rfl) (by simp)
            clear hdep
            obtain rfl := e5 hcl
            obtain rfl := e8 hl
            obtain ⟨ga1, ca1, rfl⟩ : ∃ g cap, h1 = .slice (some ⟨g, 0, none⟩) p.ats.length cap := form_pos (r := rwI h1 p.ats.length p.ats) (H.q _ (by rw [onP_yes hcl]; simp)) (show 0 < p.ats.length by have := HLN.out; omega)
            obtain ⟨ga2, ca2, rfl⟩ : ∃ g cap, h2 = .slice (some ⟨g, 0, none⟩) p.gr.length cap := form_pos (r := rwS h2 p.gr.length p.gr) (H.q _ (by rw [onP_yes hcl]; simp)) (show 0 < p.gr.length by have := HLN.out; omega)
            rw [onX_yes hl, hd] at H
            obtain ⟨⟨z0, z1, z2, z3, z4⟩, y0, y1, y2, y3, y4⟩ := five_cells (show W.heap[ph]? = some (.cells #[.slice none 0 0, .slice none 0 0, .int .i64 0, .int .i64 0, .int .i64 0] 27 (0, 0)) from (H.x (ph, zero5) (by simp)).2)
            go_simp
            clear z0 z1 z2 z3 z4 y0 y1 y2 y3 y4
            refine hK _ _ ?_
            refine ⟨x115, x117, _, x25, x26, _, f1, f2, t1, t2, .slice (some ⟨ga1, 0, none⟩) p.ats.length ca1, .slice (some ⟨ga2, 0, none⟩) p.gr.length ca2, pf, pt, ph, rfl, ?_, e1, e3, fun _ => rfl, e6, e7, fun _ => rfl, e9, e10, fun _ => ⟨hcl, hl⟩⟩
            show Mem w S d1 0 [rwI (.slice (some ⟨ha, 0, none⟩) p.ats.length hc) p.ats.length p.ats, rwS (.slice (some ⟨ga, 0, none⟩) p.gr.length gc) p.gr.length p.gr, rwI (.slice (some ⟨ta, 0, none⟩) T.length tc) T.length T] (onP (done 1) (rwI f1 p.ats.length p.ats) (rwS f2 p.gr.length p.gr) ++ (onP (done 3) (rwI t1 p.ats.length p.ats) (rwS t2 p.gr.length p.gr) ++ (onP (done 5) (rwI (.slice (some ⟨ga1, 0, none⟩) p.ats.length ca1) p.ats.length p.ats) (rwS (.slice (some ⟨ga2, 0, none⟩) p.gr.length ca2) p.gr.length p.gr) ++ ([])))) (onX (done 6) pf (cond (done 9) (prof5 p f1 f2) zero5) ++ (onX (done 7) pt (cond (done 10) (prof5 p t1 t2) zero5) ++ (onX (done 8) ph (cond (true) (prof5 p (.slice (some ⟨ga1, 0, none⟩) p.ats.length ca1) (.slice (some ⟨ga2, 0, none⟩) p.gr.length ca2)) zero5) ++ ([(q, Obj.cells #[.slice (some ⟨ha, 0, none⟩) p.ats.length hc, .slice (some ⟨ga, 0, none⟩) p.gr.length gc, .int .i64 p.tall, .int .i64 p.lo, .int .i64 p.hi] 27 (0, 0))])))) _
            rw [onX_yes hl]
            exact (Mem.put5 (X1 := onX (done 6) pf (cond (done 9) (prof5 p f1 f2) zero5) ++ onX (done 7) pt (cond (done 10) (prof5 p t1 t2) zero5)) H.assocX _ _ _ _ _).unassocX
        case fin =>
          rintro done a W hall ⟨x115, x117, x119, x25, x26, x27, f1, f2, t1, t2, h1, h2, pf, pt, ph, rfl, H, e1, e3, e5, e6, e7, e8, e9, e10, e11⟩
          replace e1 := e1 (hall 1 (by simp))
          replace e3 := e3 (hall 3 (by simp))
          replace e5 := e5 (hall 5 (by simp))
          replace e6 := e6 (hall 6 (by simp))
          replace e7 := e7 (hall 7 (by simp))
          replace e8 := e8 (hall 8 (by simp))
          replace e9 := e9 (hall 9 (by simp))
          replace e10 := e10 (hall 10 (by simp))
          replace e11 := e11 (hall 11 (by simp))
          obtain rfl := e1
          obtain rfl := e3
          obtain rfl := e5
          obtain rfl := e6
          obtain rfl := e7
          obtain rfl := e8
          rw [onP_yes (hall 1 (by simp)), onP_yes (hall 3 (by simp)), onP_yes (hall 5 (by simp)), onX_yes (hall 6 (by simp)), onX_yes (hall 7 (by simp)), onX_yes (hall 8 (by simp)), hall 9 (by simp), hall 10 (by simp), hall 11 (by simp)] at H
          obtain ⟨fg1, fc1, rfl⟩ : ∃ g cap, f1 = .slice (some ⟨g, 0, none⟩) p.ats.length cap := form_pos (r := rwI f1 p.ats.length p.ats) (H.q _ (by simp)) (show 0 < p.ats.length by have := HLN.out; omega)
          obtain ⟨fg2, fc2, rfl⟩ : ∃ g cap, f2 = .slice (some ⟨g, 0, none⟩) p.gr.length cap := form_pos (r := rwS f2 p.gr.length p.gr) (H.q _ (by simp)) (show 0 < p.gr.length by have := HLN.out; omega)
          obtain ⟨tg1, tc1, rfl⟩ : ∃ g cap, t1 = .slice (some ⟨g, 0, none⟩) p.ats.length cap := form_pos (r := rwI t1 p.ats.length p.ats) (H.q _ (by simp)) (show 0 < p.ats.length by have := HLN.out; omega)
          obtain ⟨tg2, tc2, rfl⟩ : ∃ g cap, t2 = .slice (some ⟨g, 0, none⟩) p.gr.length cap := form_pos (r := rwS t2 p.gr.length p.gr) (H.q _ (by simp)) (show 0 < p.gr.length by have := HLN.out; omega)
          obtain ⟨hg1, hc1, rfl⟩ : ∃ g cap, h1 = .slice (some ⟨g, 0, none⟩) p.ats.length cap := form_pos (r := rwI h1 p.ats.length p.ats) (H.q _ (by simp)) (show 0 < p.ats.length by have := HLN.out; omega)
          obtain ⟨hg2, hc2, rfl⟩ : ∃ g cap, h2 = .slice (some ⟨g, 0, none⟩) p.gr.length cap := form_pos (r := rwS h2 p.gr.length p.gr) (H.q _ (by simp)) (show 0 < p.gr.length by have := HLN.out; omega)
          have HK4 : Hid (Mem w S d1 0 [rwI (.slice (some ⟨ha, 0, none⟩) p.ats.length hc) p.ats.length p.ats, rwS (.slice (some ⟨ga, 0, none⟩) p.gr.length gc) p.gr.length p.gr, rwI (.slice (some ⟨ta, 0, none⟩) T.length tc) T.length T] [rwI (.slice (some ⟨fg1, 0, none⟩) p.ats.length fc1) p.ats.length p.ats, rwS (.slice (some ⟨fg2, 0, none⟩) p.gr.length fc2) p.gr.length p.gr, rwI (.slice (some ⟨tg1, 0, none⟩) p.ats.length tc1) p.ats.length p.ats, rwS (.slice (some ⟨tg2, 0, none⟩) p.gr.length tc2) p.gr.length p.gr, rwI (.slice (some ⟨hg1, 0, none⟩) p.ats.length hc1) p.ats.length p.ats, rwS (.slice (some ⟨hg2, 0, none⟩) p.gr.length hc2) p.gr.length p.gr] ((pf, Obj.cells #[.slice (some ⟨fg1, 0, none⟩) p.ats.length fc1, .slice (some ⟨fg2, 0, none⟩) p.gr.length fc2, .int .i64 p.tall, .int .i64 p.lo, .int .i64 p.hi] 27 (0, 0)) :: (pt, Obj.cells #[.slice (some ⟨tg1, 0, none⟩) p.ats.length tc1, .slice (some ⟨tg2, 0, none⟩) p.gr.length tc2, .int .i64 p.tall, .int .i64 p.lo, .int .i64 p.hi] 27 (0, 0)) :: (ph, Obj.cells #[.slice (some ⟨hg1, 0, none⟩) p.ats.length hc1, .slice (some ⟨hg2, 0, none⟩) p.gr.length hc2, .int .i64 p.tall, .int .i64 p.lo, .int .i64 p.hi] 27 (0, 0)) :: [(q, Obj.cells #[.slice (some ⟨ha, 0, none⟩) p.ats.length hc, .slice (some ⟨ga, 0, none⟩) p.gr.length gc, .int .i64 p.tall, .int .i64 p.lo, .int .i64 p.hi] 27 (0, 0))]) W) := Lib.hid H
          clear H hall HK3 e9 e10 e11 hC
          dsimp only
          go_wp2_with fail
          refine (fold_any (v := a2) (n := 1000) W (by omega)).mono ?_
          rintro e W0 ⟨up, rfl, hup, rfl⟩
          have hu0 := hup.1
          have hu1 := hup.2
          have htl0 : 0 ≤ p.tall := HM.out.tall.1
          have htl1 : p.tall ≤ 29 := HM.out.tall.2
          have hw : IntKind.i64.wrap (p.tall + up) = p.tall + up := IntWalk.i64_in _ (by omega)
          clear hup
          obtain ⟨b0, b1, b2, b3, b4⟩ := HK4.out.box5 (q := pt) (a := .slice (some ⟨tg1, 0, none⟩) p.ats.length tc1) (b := .slice (some ⟨tg2, 0, none⟩) p.gr.length tc2) (e := .int .i64 p.tall) (f := .int .i64 p.lo) (g := .int .i64 p.hi) (t := 27) (by simp)
          obtain ⟨y0, y1, y2, y3, y4⟩ := HK4.out.frz5 (q := pt) (t := 27) (List.mem_cons_of_mem _ List.mem_cons_self)
          go_upto_region 21 with (fail)
          have HK5 : Hid (Mem w S d1 0 [rwI (.slice (some ⟨ha, 0, none⟩) p.ats.length hc) p.ats.length p.ats, rwS (.slice (some ⟨ga, 0, none⟩) p.gr.length gc) p.gr.length p.gr, rwI (.slice (some ⟨ta, 0, none⟩) T.length tc) T.length T] [rwI (.slice (some ⟨fg1, 0, none⟩) p.ats.length fc1) p.ats.length p.ats, rwS (.slice (some ⟨fg2, 0, none⟩) p.gr.length fc2) p.gr.length p.gr, rwI (.slice (some ⟨tg1, 0, none⟩) p.ats.length tc1) p.ats.length p.ats, rwS (.slice (some ⟨tg2, 0, none⟩) p.gr.length tc2) p.gr.length p.gr, rwI (.slice (some ⟨hg1, 0, none⟩) p.ats.length hc1) p.ats.length p.ats, rwS (.slice (some ⟨hg2, 0, none⟩) p.gr.length hc2) p.gr.length p.gr] ((pf, Obj.cells #[.slice (some ⟨fg1, 0, none⟩) p.ats.length fc1, .slice (some ⟨fg2, 0, none⟩) p.gr.length fc2, .int .i64 p.tall, .int .i64 p.lo, .int .i64 p.hi] 27 (0, 0)) :: (pt, Obj.cells #[.slice (some ⟨tg1, 0, none⟩) p.ats.length tc1, .slice (some ⟨tg2, 0, none⟩) p.gr.length tc2, .int .i64 (p.tall + up), .int .i64 p.lo, .int .i64 p.hi] 27 (0, 0)) :: (ph, Obj.cells #[.slice (some ⟨hg1, 0, none⟩) p.ats.length hc1, .slice (some ⟨hg2, 0, none⟩) p.gr.length hc2, .int .i64 p.tall, .int .i64 p.lo, .int .i64 p.hi] 27 (0, 0)) :: [(q, Obj.cells #[.slice (some ⟨ha, 0, none⟩) p.ats.length hc, .slice (some ⟨ga, 0, none⟩) p.gr.length gc, .int .i64 p.tall, .int .i64 p.lo, .int .i64 p.hi] 27 (0, 0))]) (W0.setCell ⟨pt, 2, none⟩ (.int .i64 (p.tall + up)))) := Lib.hid (HK4.out.putX (X1 := [_]) 2 (.int .i64 (p.tall + up)))
          clear b0 b1 b2 b3 b4 y0 y1 y2 y3 y4 hw HK4
          generalize W0.setCell ⟨pt, 2, none⟩ (.int .i64 (p.tall + up)) = W1 at HK5 ⊢
          obtain ⟨b0, b1, b2, b3, b4⟩ := HK5.out.box5 (q := q) (a := .slice (some ⟨ha, 0, none⟩) p.ats.length hc) (b := .slice (some ⟨ga, 0, none⟩) p.gr.length gc) (e := .int .i64 p.tall) (f := .int .i64 p.lo) (g := .int .i64 p.hi) (t := 27) (by simp)
          go_wp2_with fail
          clear b0 b1 b2 b3 b4
          go_loopw [130] (fun i W => ∃ (k c : Nat) (F G : List (Int × Int)), k ≤ p.gr.length ∧ i = .int .i64 k ∧ Hid (c ≤ 2 * k) ∧ Hid (FineTo p T k F ∧ HighTo p up k G) ∧ Hid (Mem w S d1 c [rwI (.slice (some ⟨ha, 0, none⟩) p.ats.length hc) p.ats.length p.ats, rwS (.slice (some ⟨ga, 0, none⟩) p.gr.length gc) p.gr.length p.gr, rwI (.slice (some ⟨ta, 0, none⟩) T.length tc) T.length T] [rwI (.slice (some ⟨fg1, 0, none⟩) p.ats.length fc1) p.ats.length p.ats, rwS (.slice (some ⟨fg2, 0, none⟩) p.gr.length fc2) p.gr.length F, rwI (.slice (some ⟨tg1, 0, none⟩) p.ats.length tc1) p.ats.length p.ats, rwS (.slice (some ⟨tg2, 0, none⟩) p.gr.length tc2) p.gr.length p.gr, rwI (.slice (some ⟨hg1, 0, none⟩) p.ats.length hc1) p.ats.length p.ats, rwS (.slice (some ⟨hg2, 0, none⟩) p.gr.length hc2) p.gr.length G] ((pf, Obj.cells #[.slice (some ⟨fg1, 0, none⟩) p.ats.length fc1, .slice (some ⟨fg2, 0, none⟩) p.gr.length fc2, .int .i64 p.tall, .int .i64 p.lo, .int .i64 p.hi] 27 (0, 0)) :: (pt, Obj.cells #[.slice (some ⟨tg1, 0, none⟩) p.ats.length tc1, .slice (some ⟨tg2, 0, none⟩) p.gr.length tc2, .int .i64 (p.tall + up), .int .i64 p.lo, .int .i64 p.hi] 27 (0, 0)) :: (ph, Obj.cells #[.slice (some ⟨hg1, 0, none⟩) p.ats.length hc1, .slice (some ⟨hg2, 0, none⟩) p.gr.length hc2, .int .i64 p.tall, .int .i64 p.lo, .int .i64 p.hi] 27 (0, 0)) :: [(q, Obj.cells #[.slice (some ⟨ha, 0, none⟩) p.ats.length hc, .slice (some ⟨ga, 0, none⟩) p.gr.length gc, .int .i64 p.tall, .int .i64 p.lo, .int .i64 p.hi] 27 (0, 0))]) W)) (fun i _ => p.gr.length - (intOf i).toNat)
          case atStart => exact ⟨0, 0, p.gr, p.gr, Nat.zero_le _, rfl, Lib.hid (Nat.le_refl _), Lib.hid ⟨⟨rfl, fun z hz => by omega⟩, ⟨rfl, fun z hz => by omega⟩⟩, HK5⟩
          case round =>
            as_aux_lemma =>
              clear HK5
              obtain ⟨k, c, F, G, hk, rfl, HC, HFG, HK⟩ := hrel
              by_cases hlt : k < p.gr.length
              · obtain ⟨q0, q1⟩ := HK.out.cellS (g := ga) (n := p.gr.length) (cap := gc) (l := p.gr) (.inl (by simp)) hlt
                obtain ⟨⟨u, v⟩, huv⟩ : ∃ s, s = p.gr.getD k (0, 0) := ⟨_, rfl⟩
                obtain ⟨tk, htk⟩ : ∃ tk, tk = T.getD k 0 := ⟨_, rfl⟩
                rw [← huv] at q0 q1
                dsimp only at q0 q1
                have HUV : Hid (u = (p.g k).1 ∧ v = (p.g k).2 ∧ tk = T.getD k 0 ∧ 0 ≤ u ∧ u ≤ tk ∧ tk ≤ v ∧ v ≤ 67) := Lib.hid (by
                  have h := HM.out.h k (by have := HLN.out; omega)
                  rw [← huv, ← htk] at h
                  unfold Pf.g
                  rw [← huv]
                  exact ⟨rfl, rfl, htk, h.1, h.2.1, h.2.2.1, h.2.2.2⟩)
                have hi1 : (k : Int) < (p.gr.length : Int) := by omega
                have hi2 : (k : Int) < (T.length : Int) := by have := HLN.out; omega
                have hk40 : k < 40 := by have := HLN.out; omega
                clear huv htk
                go_upto_region 24 with (fail)
                clear q0 q1
                have HKa := Lib.hid (HK.out.lay (.cells #[.int .i64 u, .int .i64 v] 25))
                obtain ⟨qs, hqe⟩ : ∃ q, q = wr.heap.size := ⟨_, rfl⟩
                simp only [← hqe] at HKa ⊢
                generalize wr.alloc (.cells #[.int .i64 u, .int .i64 v] 25) = wa at HKa ⊢
                clear HK hqe
                have HCF : Hid (∀ c F W, Mem w S d1 c [rwI (.slice (some ⟨ha, 0, none⟩) p.ats.length hc) p.ats.length p.ats, rwS (.slice (some ⟨ga, 0, none⟩) p.gr.length gc) p.gr.length p.gr, rwI (.slice (some ⟨ta, 0, none⟩) T.length tc) T.length T] [rwI (.slice (some ⟨fg1, 0, none⟩) p.ats.length fc1) p.ats.length p.ats, rwS (.slice (some ⟨fg2, 0, none⟩) p.gr.length fc2) p.gr.length F, rwI (.slice (some ⟨tg1, 0, none⟩) p.ats.length tc1) p.ats.length p.ats, rwS (.slice (some ⟨tg2, 0, none⟩) p.gr.length tc2) p.gr.length p.gr, rwI (.slice (some ⟨hg1, 0, none⟩) p.ats.length hc1) p.ats.length p.ats, rwS (.slice (some ⟨hg2, 0, none⟩) p.gr.length hc2) p.gr.length G] ((qs, Obj.cells #[.int .i64 u, .int .i64 v] 25 (0, 0)) :: ((pf, Obj.cells #[.slice (some ⟨fg1, 0, none⟩) p.ats.length fc1, .slice (some ⟨fg2, 0, none⟩) p.gr.length fc2, .int .i64 p.tall, .int .i64 p.lo, .int .i64 p.hi] 27 (0, 0)) :: (pt, Obj.cells #[.slice (some ⟨tg1, 0, none⟩) p.ats.length tc1, .slice (some ⟨tg2, 0, none⟩) p.gr.length tc2, .int .i64 (p.tall + up), .int .i64 p.lo, .int .i64 p.hi] 27 (0, 0)) :: (ph, Obj.cells #[.slice (some ⟨hg1, 0, none⟩) p.ats.length hc1, .slice (some ⟨hg2, 0, none⟩) p.gr.length hc2, .int .i64 p.tall, .int .i64 p.lo, .int .i64 p.hi] 27 (0, 0)) :: [(q, Obj.cells #[.slice (some ⟨ha, 0, none⟩) p.ats.length hc, .slice (some ⟨ga, 0, none⟩) p.gr.length gc, .int .i64 p.tall, .int .i64 p.lo, .int .i64 p.hi] 27 (0, 0))])) W → (fun W => W.cell? ⟨pf, 1, none⟩ = some (.slice (some ⟨fg2, 0, none⟩) p.gr.length fc2) ∧ W.cell? ⟨qs, 0, none⟩ = some (.int .i64 u) ∧ W.cell? ⟨qs, 1, none⟩ = some (.int .i64 v) ∧ W.cell? ⟨ta, k, none⟩ = some (.int .i64 tk)) W) := Lib.hid fun c F W h => ⟨(h.box5 (q := pf) (t := 27) (List.mem_cons_of_mem _ List.mem_cons_self)).2.1, (h.box2 (q := qs) (t := 25) List.mem_cons_self).1, (h.box2 (q := qs) (t := 25) List.mem_cons_self).2, by have h2 := h.cellI (g := ta) (n := T.length) (cap := tc) (l := T) (.inl (by simp)) (j := k) (by omega); rw [← HUV.out.2.2.1] at h2; exact h2⟩
                have HKb := Lib.hid HKa.out.drew
                have hC := HCF.out _ _ _ HKb.out
                clear HKa
                generalize hW0 : wa.drew = W6 at HKb hC
                refine Lim.regC' (fun W => W.cell? ⟨pf, 1, none⟩ = some (.slice (some ⟨fg2, 0, none⟩) p.gr.length fc2) ∧ W.cell? ⟨qs, 0, none⟩ = some (.int .i64 u) ∧ W.cell? ⟨qs, 1, none⟩ = some (.int .i64 v) ∧ W.cell? ⟨ta, k, none⟩ = some (.int .i64 tk)) [] #[false, false, false, false, false, false, false, false, false, false, false, false, false, false, false, false, false, false, false, false, false, false] (by kernel_rfl) rfl ?_
                rw [hW0]; clear hW0
                refine Lim.stepR 0 (fun _ => trivial) rfl (by kernel_rfl) (fun _ _ _ _ h => h) hC rfl ?_; apply Exists.intro; refine ⟨?_, ?_⟩
                · rintro w ⟨r0, r1, r2, r3⟩; go_simp; try with_reducible rfl
                simp only [Act.put, List.setIfInBounds_toArray, List.set_cons_succ, List.set_cons_zero]
                refine Lim.stepR 1 (fun _ => trivial) rfl (by kernel_rfl) (fun _ _ _ _ h => h) hC rfl ?_; apply Exists.intro; refine ⟨?_, ?_⟩
                · rintro w ⟨r0, r1, r2, r3⟩; go_simp; try with_reducible rfl
                simp only [Act.put, List.setIfInBounds_toArray, List.set_cons_succ, List.set_cons_zero]
                refine Lim.stepR 2 (fun _ => trivial) rfl (by kernel_rfl) (fun _ _ _ _ h => h) hC rfl ?_; apply Exists.intro; refine ⟨?_, ?_⟩
                · rintro w ⟨r0, r1, r2, r3⟩; go_simp; try with_reducible rfl
                simp only [Act.put, List.setIfInBounds_toArray, List.set_cons_succ, List.set_cons_zero]
                refine Lim.stepR 3 (fun _ => trivial) rfl (by kernel_rfl) (fun _ _ _ _ h => h) hC rfl ?_; apply Exists.intro; refine ⟨?_, ?_⟩
                · rintro w ⟨r0, r1, r2, r3⟩; go_simp; try with_reducible rfl
                simp only [Act.put, List.setIfInBounds_toArray, List.set_cons_succ, List.set_cons_zero]
                refine Lim.stepR 4 (fun _ => trivial) rfl (by kernel_rfl) (fun _ _ _ _ h => h) hC rfl ?_; apply Exists.intro; refine ⟨?_, ?_⟩
                · rintro w ⟨r0, r1, r2, r3⟩; go_simp; try with_reducible rfl
                simp only [Act.put, List.setIfInBounds_toArray, List.set_cons_succ, List.set_cons_zero]
                refine Lim.stepR 5 (fun _ => trivial) rfl (by kernel_rfl) (fun _ _ _ _ h => h) hC rfl ?_; apply Exists.intro; refine ⟨?_, ?_⟩
                · rintro w ⟨r0, r1, r2, r3⟩; go_simp; try with_reducible rfl
                simp only [Act.put, List.setIfInBounds_toArray, List.set_cons_succ, List.set_cons_zero]
                refine Lim.stepR 6 (fun _ => trivial) rfl (by kernel_rfl) (fun _ _ _ _ h => h) hC rfl ?_; apply Exists.intro; refine ⟨?_, ?_⟩
                · rintro w ⟨r0, r1, r2, r3⟩; go_simp; try with_reducible rfl
                simp only [Act.put, List.setIfInBounds_toArray, List.set_cons_succ, List.set_cons_zero]
                refine Lim.stepR 7 (fun _ => trivial) rfl (by kernel_rfl) (fun _ _ _ _ h => h) hC rfl ?_; apply Exists.intro; refine ⟨?_, ?_⟩
                · rintro w ⟨r0, r1, r2, r3⟩; go_simp; try with_reducible rfl
                simp only [Act.put, List.setIfInBounds_toArray, List.set_cons_succ, List.set_cons_zero]
                refine Lim.stepR 8 (fun _ => trivial) rfl (by kernel_rfl) (fun _ _ _ _ h => h) hC rfl ?_; apply Exists.intro; refine ⟨?_, ?_⟩
                · rintro w ⟨r0, r1, r2, r3⟩; go_simp; try with_reducible rfl
                simp only [Act.put, List.setIfInBounds_toArray, List.set_cons_succ, List.set_cons_zero]
                refine Lim.stepR 9 (fun _ => trivial) rfl (by kernel_rfl) (fun _ _ _ _ h => h) hC rfl ?_; apply Exists.intro; refine ⟨?_, ?_⟩
                · rintro w ⟨r0, r1, r2, r3⟩; go_simp; try with_reducible rfl
                simp only [Act.put, List.setIfInBounds_toArray, List.set_cons_succ, List.set_cons_zero]
                refine Lim.stepR 11 (fun _ => trivial) rfl (by kernel_rfl) (fun _ _ _ _ h => h) hC rfl ?_; apply Exists.intro; refine ⟨?_, ?_⟩
                · rintro w ⟨r0, r1, r2, r3⟩; go_simp; try with_reducible rfl
                simp only [Act.put, List.setIfInBounds_toArray, List.set_cons_succ, List.set_cons_zero]
                refine Lim.stepR 12 (fun _ => trivial) rfl (by kernel_rfl) (fun _ _ _ _ h => h) hC rfl ?_; apply Exists.intro; refine ⟨?_, ?_⟩
                · rintro w ⟨r0, r1, r2, r3⟩; go_simp; try with_reducible rfl
                simp only [Act.put, List.setIfInBounds_toArray, List.set_cons_succ, List.set_cons_zero]
                refine Lim.stepR 13 (fun _ => trivial) rfl (by kernel_rfl) (fun _ _ _ _ h => h) hC rfl ?_; apply Exists.intro; refine ⟨?_, ?_⟩
                · rintro w ⟨r0, r1, r2, r3⟩; go_simp; try with_reducible rfl
                simp only [Act.put, List.setIfInBounds_toArray, List.set_cons_succ, List.set_cons_zero]
                refine Lim.stepR 14 (fun _ => trivial) rfl (by kernel_rfl) (fun _ _ _ _ h => h) hC rfl ?_; apply Exists.intro; refine ⟨?_, ?_⟩
                · rintro w ⟨r0, r1, r2, r3⟩; go_simp; try with_reducible rfl
                simp only [Act.put, List.setIfInBounds_toArray, List.set_cons_succ, List.set_cons_zero]
                refine Lim.stepR 15 (fun _ => trivial) rfl (by kernel_rfl) (fun _ _ _ _ h => h) hC rfl ?_; apply Exists.intro; refine ⟨?_, ?_⟩
                · rintro w ⟨r0, r1, r2, r3⟩; go_simp; try with_reducible rfl
                simp only [Act.put, List.setIfInBounds_toArray, List.set_cons_succ, List.set_cons_zero]
                refine Lim.stepR 16 (fun _ => trivial) rfl (by kernel_rfl) (fun _ _ _ _ h => h) hC rfl ?_; apply Exists.intro; refine ⟨?_, ?_⟩
                · rintro w ⟨r0, r1, r2, r3⟩; go_simp; try with_reducible rfl
                simp only [Act.put, List.setIfInBounds_toArray, List.set_cons_succ, List.set_cons_zero]
                refine Lim.stepR 17 (fun _ => trivial) rfl (by kernel_rfl) (fun _ _ _ _ h => h) hC rfl ?_; apply Exists.intro; refine ⟨?_, ?_⟩
                · rintro w ⟨r0, r1, r2, r3⟩; go_simp; try with_reducible rfl
                simp only [Act.put, List.setIfInBounds_toArray, List.set_cons_succ, List.set_cons_zero]
                refine Lim.stepE 10 (fun _ => trivial) rfl (by kernel_rfl) rfl (fun K hK => ?_)   -- E call
                go_simp
                refine ⟨rfl, (callsIn_wide.2 (deck_between (a := u) (b := tk) HKb.out.dk (by have := HC.out; omega) (by have := HUV.out; omega) (by have := HUV.out; omega) HUV.out.2.2.2.2.1)).mono ?_⟩
                rintro e W2 ⟨lo', rfl, hlo, hdl⟩
                have HKc := Lib.hid (HKb.out.dealt hdl)
                have HLO := Lib.hid hlo
                have hC2 := HCF.out _ _ _ HKc.out
                refine hK _ _ hC2 ?_
                clear hK hdl hlo HKb hC
                simp only [Act.put, List.setIfInBounds_toArray, List.set_cons_succ, List.set_cons_zero]
                refine Lim.stepE 18 (fun _ => trivial) rfl (by kernel_rfl) rfl (fun K hK => ?_)   -- E call
                go_simp
                refine ⟨rfl, (callsIn_wide.2 (deck_between (a := tk) (b := v) HKc.out.dk (by have := HC.out; omega) (by have := HUV.out; omega) (by have := HUV.out; omega) HUV.out.2.2.2.2.2.1)).mono ?_⟩
                rintro e W3 ⟨hi', rfl, hhi, hdl⟩
                have HKd := Lib.hid (HKc.out.dealt hdl)
                have HHI := Lib.hid hhi
                have hC3 := HCF.out _ _ _ HKd.out
                refine hK _ _ hC3 ?_
                clear hK hdl hhi HKc hC2
                simp only [Act.put, List.setIfInBounds_toArray, List.set_cons_succ, List.set_cons_zero]
                refine Lim.stepE 19 (fun _ => trivial) rfl (by kernel_rfl) rfl (fun K hK => ?_)   -- E call
                go_simp
                refine ⟨rfl, (callsIn_wide.2 (span_any lo' hi' _)).mono ?_⟩
                rintro e W4 ⟨rfl, hb⟩
                have HKe := Lib.hid (HKd.out.grow hb)
                have hC4 := HCF.out _ _ _ HKe.out
                refine hK _ _ hC4 ?_
                clear hK hb HKd hC3
                simp only [Act.put, List.setIfInBounds_toArray, List.set_cons_succ, List.set_cons_zero]
                refine Lim.stepR 20 (fun _ => trivial) rfl (by kernel_rfl) (fun _ _ _ _ h => h) hC4 rfl ?_; apply Exists.intro; refine ⟨?_, ?_⟩
                · rintro w ⟨r0, r1, r2, r3⟩; go_simp; try with_reducible rfl
                simp only [Act.put, List.setIfInBounds_toArray, List.set_cons_succ, List.set_cons_zero]
                refine Lim.stepE 21 (fun _ => trivial) rfl (by kernel_rfl) rfl (fun K hK => ?_)   -- E store
                obtain ⟨z0, z1⟩ := HKe.out.cellS (g := fg2) (n := p.gr.length) (cap := fc2) (l := F) (.inr (by simp)) (by rw [HFG.out.1.len]; exact hlt)
                have y0 : W4.frozen? ⟨fg2, k * 2, none⟩ = false := row_frz (HKe.out.q (rwS (.slice (some ⟨fg2, 0, none⟩) p.gr.length fc2) p.gr.length F) (by simp)) rfl _
                have y1 : W4.frozen? ⟨fg2, k * 2 + 1, none⟩ = false := row_frz (HKe.out.q (rwS (.slice (some ⟨fg2, 0, none⟩) p.gr.length fc2) p.gr.length F) (by simp)) rfl _
                go_simp
                have HKf : Hid (Mem w S d1 (c + 1 + 1) [rwI (.slice (some ⟨ha, 0, none⟩) p.ats.length hc) p.ats.length p.ats, rwS (.slice (some ⟨ga, 0, none⟩) p.gr.length gc) p.gr.length p.gr, rwI (.slice (some ⟨ta, 0, none⟩) T.length tc) T.length T] [rwI (.slice (some ⟨fg1, 0, none⟩) p.ats.length fc1) p.ats.length p.ats, rwS (.slice (some ⟨fg2, 0, none⟩) p.gr.length fc2) p.gr.length (F.set k (lo', hi')), rwI (.slice (some ⟨tg1, 0, none⟩) p.ats.length tc1) p.ats.length p.ats, rwS (.slice (some ⟨tg2, 0, none⟩) p.gr.length tc2) p.gr.length p.gr, rwI (.slice (some ⟨hg1, 0, none⟩) p.ats.length hc1) p.ats.length p.ats, rwS (.slice (some ⟨hg2, 0, none⟩) p.gr.length hc2) p.gr.length G] ((qs, Obj.cells #[.int .i64 u, .int .i64 v] 25 (0, 0)) :: ((pf, Obj.cells #[.slice (some ⟨fg1, 0, none⟩) p.ats.length fc1, .slice (some ⟨fg2, 0, none⟩) p.gr.length fc2, .int .i64 p.tall, .int .i64 p.lo, .int .i64 p.hi] 27 (0, 0)) :: (pt, Obj.cells #[.slice (some ⟨tg1, 0, none⟩) p.ats.length tc1, .slice (some ⟨tg2, 0, none⟩) p.gr.length tc2, .int .i64 (p.tall + up), .int .i64 p.lo, .int .i64 p.hi] 27 (0, 0)) :: (ph, Obj.cells #[.slice (some ⟨hg1, 0, none⟩) p.ats.length hc1, .slice (some ⟨hg2, 0, none⟩) p.gr.length hc2, .int .i64 p.tall, .int .i64 p.lo, .int .i64 p.hi] 27 (0, 0)) :: [(q, Obj.cells #[.slice (some ⟨ha, 0, none⟩) p.ats.length hc, .slice (some ⟨ga, 0, none⟩) p.gr.length gc, .int .i64 p.tall, .int .i64 p.lo, .int .i64 p.hi] 27 (0, 0))])) ((W4.setCell ⟨fg2, k * 2, none⟩ (.int .i64 lo')).setCell ⟨fg2, k * 2 + 1, none⟩ (.int .i64 hi'))) := Lib.hid (Mem.setS (Q1 := [_]) HKe.out k lo' hi')
                have hC5 := HCF.out _ _ _ HKf.out
                refine hK _ _ hC5 ?_
                clear hK z0 z1 y0 y1 HKe hC4
                generalize (W4.setCell ⟨fg2, k * 2, none⟩ (.int .i64 lo')).setCell ⟨fg2, k * 2 + 1, none⟩ (.int .i64 hi') = W5 at HKf hC5 ⊢
                simp only [Act.put, List.setIfInBounds_toArray, List.set_cons_succ, List.set_cons_zero]
                refine Lim.stepD (by kernel_rfl) ?_
                clear hC5 HCF
                have hub : 0 ≤ u ∧ u ≤ 67 ∧ 0 ≤ v ∧ v ≤ 67 := by have := HUV.out; omega
                have ew1 : IntKind.i64.wrap (u + up) = u + up := IntWalk.i64_in _ (by omega)
                have ew2 : IntKind.i64.wrap (v + up) = v + up := IntWalk.i64_in _ (by omega)
                clear hub
                go_upto_region 25 with (fail)
                have HCF : Hid (∀ G W, Mem w S d1 (c + 1 + 1) [rwI (.slice (some ⟨ha, 0, none⟩) p.ats.length hc) p.ats.length p.ats, rwS (.slice (some ⟨ga, 0, none⟩) p.gr.length gc) p.gr.length p.gr, rwI (.slice (some ⟨ta, 0, none⟩) T.length tc) T.length T] [rwI (.slice (some ⟨fg1, 0, none⟩) p.ats.length fc1) p.ats.length p.ats, rwS (.slice (some ⟨fg2, 0, none⟩) p.gr.length fc2) p.gr.length (F.set k (lo', hi')), rwI (.slice (some ⟨tg1, 0, none⟩) p.ats.length tc1) p.ats.length p.ats, rwS (.slice (some ⟨tg2, 0, none⟩) p.gr.length tc2) p.gr.length p.gr, rwI (.slice (some ⟨hg1, 0, none⟩) p.ats.length hc1) p.ats.length p.ats, rwS (.slice (some ⟨hg2, 0, none⟩) p.gr.length hc2) p.gr.length G] ((qs, Obj.cells #[.int .i64 u, .int .i64 v] 25 (0, 0)) :: ((pf, Obj.cells #[.slice (some ⟨fg1, 0, none⟩) p.ats.length fc1, .slice (some ⟨fg2, 0, none⟩) p.gr.length fc2, .int .i64 p.tall, .int .i64 p.lo, .int .i64 p.hi] 27 (0, 0)) :: (pt, Obj.cells #[.slice (some ⟨tg1, 0, none⟩) p.ats.length tc1, .slice (some ⟨tg2, 0, none⟩) p.gr.length tc2, .int .i64 (p.tall + up), .int .i64 p.lo, .int .i64 p.hi] 27 (0, 0)) :: (ph, Obj.cells #[.slice (some ⟨hg1, 0, none⟩) p.ats.length hc1, .slice (some ⟨hg2, 0, none⟩) p.gr.length hc2, .int .i64 p.tall, .int .i64 p.lo, .int .i64 p.hi] 27 (0, 0)) :: [(q, Obj.cells #[.slice (some ⟨ha, 0, none⟩) p.ats.length hc, .slice (some ⟨ga, 0, none⟩) p.gr.length gc, .int .i64 p.tall, .int .i64 p.lo, .int .i64 p.hi] 27 (0, 0))])) W → (fun W => W.cell? ⟨ph, 1, none⟩ = some (.slice (some ⟨hg2, 0, none⟩) p.gr.length hc2) ∧ W.cell? ⟨qs, 0, none⟩ = some (.int .i64 u) ∧ W.cell? ⟨qs, 1, none⟩ = some (.int .i64 v)) W) := Lib.hid fun G W h => ⟨(h.box5 (q := ph) (t := 27) (List.mem_cons_of_mem _ (List.mem_cons_of_mem _ (List.mem_cons_of_mem _ List.mem_cons_self)))).2.1, (h.box2 (q := qs) (t := 25) List.mem_cons_self).1, (h.box2 (q := qs) (t := 25) List.mem_cons_self).2⟩
                have HKg := Lib.hid HKf.out.drew
                have hC := HCF.out _ _ HKg.out
                clear HKf
                generalize hW0 : W5.drew = W6 at HKg hC
                refine Lim.regC' (fun W => W.cell? ⟨ph, 1, none⟩ = some (.slice (some ⟨hg2, 0, none⟩) p.gr.length hc2) ∧ W.cell? ⟨qs, 0, none⟩ = some (.int .i64 u) ∧ W.cell? ⟨qs, 1, none⟩ = some (.int .i64 v)) [] #[false, false, false, false, false, false, false, false, false, false, false, false, false, false] (by kernel_rfl) rfl ?_
                rw [hW0]; clear hW0
                refine Lim.stepR 0 (fun _ => trivial) rfl (by kernel_rfl) (fun _ _ _ _ h => h) hC rfl ?_; apply Exists.intro; refine ⟨?_, ?_⟩
                · rintro w ⟨r0, r1, r2⟩; go_simp; try with_reducible rfl
                simp only [Act.put, List.setIfInBounds_toArray, List.set_cons_succ, List.set_cons_zero]
                refine Lim.stepR 1 (fun _ => trivial) rfl (by kernel_rfl) (fun _ _ _ _ h => h) hC rfl ?_; apply Exists.intro; refine ⟨?_, ?_⟩
                · rintro w ⟨r0, r1, r2⟩; go_simp; try with_reducible rfl
                simp only [Act.put, List.setIfInBounds_toArray, List.set_cons_succ, List.set_cons_zero]
                refine Lim.stepR 2 (fun _ => trivial) rfl (by kernel_rfl) (fun _ _ _ _ h => h) hC rfl ?_; apply Exists.intro; refine ⟨?_, ?_⟩
                · rintro w ⟨r0, r1, r2⟩; go_simp; try with_reducible rfl
                simp only [Act.put, List.setIfInBounds_toArray, List.set_cons_succ, List.set_cons_zero]
                refine Lim.stepR 3 (fun _ => trivial) rfl (by kernel_rfl) (fun _ _ _ _ h => h) hC rfl ?_; apply Exists.intro; refine ⟨?_, ?_⟩
                · rintro w ⟨r0, r1, r2⟩; go_simp; try with_reducible rfl
                simp only [Act.put, List.setIfInBounds_toArray, List.set_cons_succ, List.set_cons_zero]
                refine Lim.stepR 4 (fun _ => trivial) rfl (by kernel_rfl) (fun _ _ _ _ h => h) hC rfl ?_; apply Exists.intro; refine ⟨?_, ?_⟩
                · rintro w ⟨r0, r1, r2⟩; go_simp; try with_reducible rfl
                simp only [Act.put, List.setIfInBounds_toArray, List.set_cons_succ, List.set_cons_zero]
                refine Lim.stepR 5 (fun _ => trivial) rfl (by kernel_rfl) (fun _ _ _ _ h => h) hC rfl ?_; apply Exists.intro; refine ⟨?_, ?_⟩
                · rintro w ⟨r0, r1, r2⟩; go_simp; try with_reducible rfl
                simp only [Act.put, List.setIfInBounds_toArray, List.set_cons_succ, List.set_cons_zero]
                refine Lim.stepR 6 (fun _ => trivial) rfl (by kernel_rfl) (fun _ _ _ _ h => h) hC rfl ?_; apply Exists.intro; refine ⟨?_, ?_⟩
                · rintro w ⟨r0, r1, r2⟩; go_simp; try with_reducible rfl
                simp only [Act.put, List.setIfInBounds_toArray, List.set_cons_succ, List.set_cons_zero]
                refine Lim.stepR 7 (fun _ => trivial) rfl (by kernel_rfl) (fun _ _ _ _ h => h) hC rfl ?_; apply Exists.intro; refine ⟨?_, ?_⟩
                · rintro w ⟨r0, r1, r2⟩; go_simp; try with_reducible rfl
                simp only [Act.put, List.setIfInBounds_toArray, List.set_cons_succ, List.set_cons_zero]
                refine Lim.stepR 8 (fun _ => trivial) rfl (by kernel_rfl) (fun _ _ _ _ h => h) hC rfl ?_; apply Exists.intro; refine ⟨?_, ?_⟩
                · rintro w ⟨r0, r1, r2⟩; go_simp; try with_reducible rfl
                simp only [Act.put, List.setIfInBounds_toArray, List.set_cons_succ, List.set_cons_zero]
                refine Lim.stepR 9 (fun _ => trivial) rfl (by kernel_rfl) (fun _ _ _ _ h => h) hC rfl ?_; apply Exists.intro; refine ⟨?_, ?_⟩
                · rintro w ⟨r0, r1, r2⟩; go_simp; try with_reducible rfl
                simp only [Act.put, List.setIfInBounds_toArray, List.set_cons_succ, List.set_cons_zero]
                refine Lim.stepR 10 (fun _ => trivial) rfl (by kernel_rfl) (fun _ _ _ _ h => h) hC rfl ?_; apply Exists.intro; refine ⟨?_, ?_⟩
                · rintro w ⟨r0, r1, r2⟩; go_simp; try with_reducible rfl
                simp only [Act.put, List.setIfInBounds_toArray, List.set_cons_succ, List.set_cons_zero]
                refine Lim.stepE 11 (fun _ => trivial) rfl (by kernel_rfl) rfl (fun K hK => ?_)   -- E call
                go_simp
                refine ⟨rfl, (callsIn_wide.2 (span_any (u + up) (v + up) _)).mono ?_⟩
                rintro e W7 ⟨rfl, hb⟩
                have HKh := Lib.hid (HKg.out.grow hb)
                have hC2 := HCF.out _ _ HKh.out
                refine hK _ _ hC2 ?_
                clear hK hb HKg hC
                simp only [Act.put, List.setIfInBounds_toArray, List.set_cons_succ, List.set_cons_zero]
                refine Lim.stepR 12 (fun _ => trivial) rfl (by kernel_rfl) (fun _ _ _ _ h => h) hC2 rfl ?_; apply Exists.intro; refine ⟨?_, ?_⟩
                · rintro w ⟨r0, r1, r2⟩; go_simp; try with_reducible rfl
                simp only [Act.put, List.setIfInBounds_toArray, List.set_cons_succ, List.set_cons_zero]
                refine Lim.stepE 13 (fun _ => trivial) rfl (by kernel_rfl) rfl (fun K hK => ?_)   -- E store
                obtain ⟨z0, z1⟩ := HKh.out.cellS (g := hg2) (n := p.gr.length) (cap := hc2) (l := G) (.inr (by simp)) (by rw [HFG.out.2.len]; exact hlt)
                have y0 : W7.frozen? ⟨hg2, k * 2, none⟩ = false := row_frz (HKh.out.q (rwS (.slice (some ⟨hg2, 0, none⟩) p.gr.length hc2) p.gr.length G) (by simp)) rfl _
                have y1 : W7.frozen? ⟨hg2, k * 2 + 1, none⟩ = false := row_frz (HKh.out.q (rwS (.slice (some ⟨hg2, 0, none⟩) p.gr.length hc2) p.gr.length G) (by simp)) rfl _
                go_simp
                have HKz : Hid (Mem w S d1 (c + 1 + 1) [rwI (.slice (some ⟨ha, 0, none⟩) p.ats.length hc) p.ats.length p.ats, rwS (.slice (some ⟨ga, 0, none⟩) p.gr.length gc) p.gr.length p.gr, rwI (.slice (some ⟨ta, 0, none⟩) T.length tc) T.length T] [rwI (.slice (some ⟨fg1, 0, none⟩) p.ats.length fc1) p.ats.length p.ats, rwS (.slice (some ⟨fg2, 0, none⟩) p.gr.length fc2) p.gr.length (F.set k (lo', hi')), rwI (.slice (some ⟨tg1, 0, none⟩) p.ats.length tc1) p.ats.length p.ats, rwS (.slice (some ⟨tg2, 0, none⟩) p.gr.length tc2) p.gr.length p.gr, rwI (.slice (some ⟨hg1, 0, none⟩) p.ats.length hc1) p.ats.length p.ats, rwS (.slice (some ⟨hg2, 0, none⟩) p.gr.length hc2) p.gr.length (G.set k (u + up, v + up))] ((qs, Obj.cells #[.int .i64 u, .int .i64 v] 25 (0, 0)) :: ((pf, Obj.cells #[.slice (some ⟨fg1, 0, none⟩) p.ats.length fc1, .slice (some ⟨fg2, 0, none⟩) p.gr.length fc2, .int .i64 p.tall, .int .i64 p.lo, .int .i64 p.hi] 27 (0, 0)) :: (pt, Obj.cells #[.slice (some ⟨tg1, 0, none⟩) p.ats.length tc1, .slice (some ⟨tg2, 0, none⟩) p.gr.length tc2, .int .i64 (p.tall + up), .int .i64 p.lo, .int .i64 p.hi] 27 (0, 0)) :: (ph, Obj.cells #[.slice (some ⟨hg1, 0, none⟩) p.ats.length hc1, .slice (some ⟨hg2, 0, none⟩) p.gr.length hc2, .int .i64 p.tall, .int .i64 p.lo, .int .i64 p.hi] 27 (0, 0)) :: [(q, Obj.cells #[.slice (some ⟨ha, 0, none⟩) p.ats.length hc, .slice (some ⟨ga, 0, none⟩) p.gr.length gc, .int .i64 p.tall, .int .i64 p.lo, .int .i64 p.hi] 27 (0, 0))])) ((W7.setCell ⟨hg2, k * 2, none⟩ (.int .i64 (u + up))).setCell ⟨hg2, k * 2 + 1, none⟩ (.int .i64 (v + up)))) := Lib.hid (Mem.setS (Q1 := [_, _, _, _, _]) HKh.out k (u + up) (v + up))
                have hC3 := HCF.out _ _ HKz.out
                refine hK _ _ hC3 ?_
                clear hK z0 z1 y0 y1 HKh hC2
                generalize (W7.setCell ⟨hg2, k * 2, none⟩ (.int .i64 (u + up))).setCell ⟨hg2, k * 2 + 1, none⟩ (.int .i64 (v + up)) = W8 at HKz hC3 ⊢
                simp only [Act.put, List.setIfInBounds_toArray, List.set_cons_succ, List.set_cons_zero]
                refine Lim.stepD (by kernel_rfl) ?_
                clear hC3 HCF
                clear ew1 ew2
                go_wp2
                go_roundw
                case rel => exact ⟨k + 1, c + 1 + 1, _, _, by omega, by go_num, Lib.hid (by have := HC.out; omega), Lib.hid ⟨HFG.out.1.set hlt (by have h1 := HLO.out; have h2 := HUV.out; rw [← h2.1, ← h2.2.2.1]; exact h1) (by have h1 := HHI.out; have h2 := HUV.out; rw [← h2.2.1, ← h2.2.2.1]; exact h1), HFG.out.2.set hlt (by rw [HUV.out.1]) (by rw [HUV.out.2.1])⟩, Lib.hid (HKz.out.less (fun _ h => h) (List.Sublist.refl _) (List.sublist_cons_self _ _))⟩
                case measure => simp [intOf]; omega
              · have hke : k = p.gr.length := by omega
                have hki : ¬ ((k : Int) < (p.gr.length : Int)) := by omega
                have HFF : Hid (FineTo p T p.gr.length F) := Lib.hid (by have h := HFG.out.1; rw [hke] at h; exact h)
                have HGG : Hid (G = (p.raise up).gr) := Lib.hid (HighTo.eq (by have h := HFG.out.2; rw [hke] at h; exact h))
                have HCC : Hid (c ≤ 20) := Lib.hid (by have := HC.out; have := HLN.out; omega)
                clear hke hk hlt HFG HC
                obtain ⟨b0, b1, b2, b3, b4⟩ := HK.out.box5 (q := q) (a := .slice (some ⟨ha, 0, none⟩) p.ats.length hc) (b := .slice (some ⟨ga, 0, none⟩) p.gr.length gc) (e := .int .i64 p.tall) (f := .int .i64 p.lo) (g := .int .i64 p.hi) (t := 27) (by simp)
                have hbd : 0 ≤ p.lo ∧ p.lo ≤ p.hi ∧ p.hi ≤ 398 := HM.out.bd
                go_wp2_with fail
                refine (deck_between (a := p.lo) (b := p.hi) HK.out.dk (by have := HCC.out; omega) (by omega) (by omega) (by omega)).mono ?_
                rintro e W2 ⟨bh, rfl, hbh, hdl⟩
                have HKa := Lib.hid (HK.out.dealt hdl)
                have HBH := Lib.hid hbh
                clear hdl hbh HK b0 b1 b2 b3 b4 hki hbd
                obtain ⟨b0, b1, b2, b3, b4⟩ := HKa.out.box5 (q := pf) (a := .slice (some ⟨fg1, 0, none⟩) p.ats.length fc1) (b := .slice (some ⟨fg2, 0, none⟩) p.gr.length fc2) (e := .int .i64 p.tall) (f := .int .i64 p.lo) (g := .int .i64 p.hi) (t := 27) (by simp)
                obtain ⟨y0, y1, y2, y3, y4⟩ := HKa.out.frz5 (q := pf) (t := 27) List.mem_cons_self
                go_upto_region 28 with (fail)
                have HKb : Hid (Mem w S d1 (c + 1) [rwI (.slice (some ⟨ha, 0, none⟩) p.ats.length hc) p.ats.length p.ats, rwS (.slice (some ⟨ga, 0, none⟩) p.gr.length gc) p.gr.length p.gr, rwI (.slice (some ⟨ta, 0, none⟩) T.length tc) T.length T] [rwI (.slice (some ⟨fg1, 0, none⟩) p.ats.length fc1) p.ats.length p.ats, rwS (.slice (some ⟨fg2, 0, none⟩) p.gr.length fc2) p.gr.length F, rwI (.slice (some ⟨tg1, 0, none⟩) p.ats.length tc1) p.ats.length p.ats, rwS (.slice (some ⟨tg2, 0, none⟩) p.gr.length tc2) p.gr.length p.gr, rwI (.slice (some ⟨hg1, 0, none⟩) p.ats.length hc1) p.ats.length p.ats, rwS (.slice (some ⟨hg2, 0, none⟩) p.gr.length hc2) p.gr.length G] ((pf, Obj.cells #[.slice (some ⟨fg1, 0, none⟩) p.ats.length fc1, .slice (some ⟨fg2, 0, none⟩) p.gr.length fc2, .int .i64 p.tall, .int .i64 p.lo, .int .i64 bh] 27 (0, 0)) :: (pt, Obj.cells #[.slice (some ⟨tg1, 0, none⟩) p.ats.length tc1, .slice (some ⟨tg2, 0, none⟩) p.gr.length tc2, .int .i64 (p.tall + up), .int .i64 p.lo, .int .i64 p.hi] 27 (0, 0)) :: (ph, Obj.cells #[.slice (some ⟨hg1, 0, none⟩) p.ats.length hc1, .slice (some ⟨hg2, 0, none⟩) p.gr.length hc2, .int .i64 p.tall, .int .i64 p.lo, .int .i64 p.hi] 27 (0, 0)) :: [(q, Obj.cells #[.slice (some ⟨ha, 0, none⟩) p.ats.length hc, .slice (some ⟨ga, 0, none⟩) p.gr.length gc, .int .i64 p.tall, .int .i64 p.lo, .int .i64 p.hi] 27 (0, 0))]) (W2.setCell ⟨pf, 4, none⟩ (.int .i64 bh))) := Lib.hid (HKa.out.putX (X1 := []) 4 (.int .i64 bh))
                clear b0 b1 b2 b3 b4 y0 y1 y2 y3 y4 HKa
                generalize W2.setCell ⟨pf, 4, none⟩ (.int .i64 bh) = W3 at HKb ⊢
                obtain ⟨b0, b1, b2, b3, b4⟩ := HKb.out.box5 (q := q) (a := .slice (some ⟨ha, 0, none⟩) p.ats.length hc) (b := .slice (some ⟨ga, 0, none⟩) p.gr.length gc) (e := .int .i64 p.tall) (f := .int .i64 p.lo) (g := .int .i64 p.hi) (t := 27) (by simp)
                go_wp2_with fail
                refine (Fewest_any (B := W3.heap.size) (Nat.le_refl _) (HKb.out.rsI (v := .slice (some ⟨ha, 0, none⟩) p.ats.length hc) (n := p.ats.length) (by simp) rfl) (HKb.out.rsS (v := .slice (some ⟨ga, 0, none⟩) p.gr.length gc) (n := p.gr.length) (by simp) rfl)).mono ?_
                rintro e W4 ⟨hb, h⟩
                obtain ⟨lv, L, rfl, ho, hL, hl45⟩ : ∃ v L, e = .returned (.tuple #[v, .int .i64 0]) ∧ W4.ownsRow W3.heap.size 3 1 v L.length (ints (L.map Int.ofNat)) ∧ IsBest p.n p.sure (-1) (p.n - 1) 0 L ∧ L.length ≤ 45 := by
                  rcases h with ⟨h, -⟩ | ⟨-, h⟩
                  · exact absurd HOK.out.err h
                  · exact h
                have HKc := Lib.hid (HKb.out.addR hb (r := rwI lv L.length (L.map Int.ofNat)) ho)
                have HL := Lib.hid (And.intro hL hl45)
                obtain ⟨la, lc, rfl⟩ : ∃ a cap, lv = .slice a L.length cap := row_form (r := rwI lv L.length (L.map Int.ofNat)) ho
                clear h hb ho hL hl45 HKb b0 b1 b2 b3 b4
                obtain ⟨b0, b1, b2, b3, b4⟩ := HKc.out.box5 (q := pf) (a := .slice (some ⟨fg1, 0, none⟩) p.ats.length fc1) (b := .slice (some ⟨fg2, 0, none⟩) p.gr.length fc2) (e := .int .i64 p.tall) (f := .int .i64 p.lo) (g := .int .i64 bh) (t := 27) (by simp)
                obtain ⟨c0, c1, c2, c3, c4⟩ := HKc.out.box5 (q := pt) (a := .slice (some ⟨tg1, 0, none⟩) p.ats.length tc1) (b := .slice (some ⟨tg2, 0, none⟩) p.gr.length tc2) (e := .int .i64 (p.tall + up)) (f := .int .i64 p.lo) (g := .int .i64 p.hi) (t := 27) (by simp)
                obtain ⟨z0, z1, z2, z3, z4⟩ := HKc.out.box5 (q := ph) (a := .slice (some ⟨hg1, 0, none⟩) p.ats.length hc1) (b := .slice (some ⟨hg2, 0, none⟩) p.gr.length hc2) (e := .int .i64 p.tall) (f := .int .i64 p.lo) (g := .int .i64 p.hi) (t := 27) (by simp)
                go_wp2_with (refine wpList_build3P rfl _ _ _ rfl rfl rfl rfl ?_)
                clear b0 b1 b2 b3 b4 c0 c1 c2 c3 c4 z0 z1 z2 z3 z4
                have HKd := Lib.hid (HKc.out.lay (.cells #[.slice (some ⟨fg1, 0, none⟩) p.ats.length fc1, .slice (some ⟨fg2, 0, none⟩) p.gr.length fc2, .int .i64 p.tall, .int .i64 p.lo, .int .i64 bh, .slice (some ⟨tg1, 0, none⟩) p.ats.length tc1, .slice (some ⟨tg2, 0, none⟩) p.gr.length tc2, .int .i64 (p.tall + up), .int .i64 p.lo, .int .i64 p.hi, .slice (some ⟨hg1, 0, none⟩) p.ats.length hc1, .slice (some ⟨hg2, 0, none⟩) p.gr.length hc2, .int .i64 p.tall, .int .i64 p.lo, .int .i64 p.hi] 27))
                obtain ⟨qz, hqe⟩ : ∃ q, q = W4.heap.size := ⟨_, rfl⟩
                simp only [← hqe] at HKd ⊢
                generalize W4.alloc (.cells #[.slice (some ⟨fg1, 0, none⟩) p.ats.length fc1, .slice (some ⟨fg2, 0, none⟩) p.gr.length fc2, .int .i64 p.tall, .int .i64 p.lo, .int .i64 bh, .slice (some ⟨tg1, 0, none⟩) p.ats.length tc1, .slice (some ⟨tg2, 0, none⟩) p.gr.length tc2, .int .i64 (p.tall + up), .int .i64 p.lo, .int .i64 p.hi, .slice (some ⟨hg1, 0, none⟩) p.ats.length hc1, .slice (some ⟨hg2, 0, none⟩) p.gr.length hc2, .int .i64 p.tall, .int .i64 p.lo, .int .i64 p.hi] 27) = W5 at HKd ⊢
                clear HKc hqe
                have HNX : Hid ((∀ k, k < p.n → (p.g k).2 + up ≤ 1100) ∧ p.hi ≤ 398 ∧ ∀ k, k < p.n → p.a k ≤ 4449) := Lib.hid ⟨fun k hk => by have := HM.out.h k hk; show (p.gr.getD k (0, 0)).2 + up ≤ 1100; omega, HM.out.bd.2.2, fun k hk => by have := HM.out.a0 k hk; have := HLN.out; have hk' : k < p.ats.length := hk; show p.ats.getD k 0 ≤ 4449; omega⟩
                go_loopw [190] (fun i W => ∃ k : Nat, k ≤ 3 ∧ i = .int .i64 k ∧ Hid (Mem w S d1 (c + 1) (rwI (.slice la L.length lc) L.length (L.map Int.ofNat) :: [rwI (.slice (some ⟨ha, 0, none⟩) p.ats.length hc) p.ats.length p.ats, rwS (.slice (some ⟨ga, 0, none⟩) p.gr.length gc) p.gr.length p.gr, rwI (.slice (some ⟨ta, 0, none⟩) T.length tc) T.length T]) [rwI (.slice (some ⟨fg1, 0, none⟩) p.ats.length fc1) p.ats.length p.ats, rwS (.slice (some ⟨fg2, 0, none⟩) p.gr.length fc2) p.gr.length F, rwI (.slice (some ⟨tg1, 0, none⟩) p.ats.length tc1) p.ats.length p.ats, rwS (.slice (some ⟨tg2, 0, none⟩) p.gr.length tc2) p.gr.length p.gr, rwI (.slice (some ⟨hg1, 0, none⟩) p.ats.length hc1) p.ats.length p.ats, rwS (.slice (some ⟨hg2, 0, none⟩) p.gr.length hc2) p.gr.length G] ((qz, Obj.cells #[.slice (some ⟨fg1, 0, none⟩) p.ats.length fc1, .slice (some ⟨fg2, 0, none⟩) p.gr.length fc2, .int .i64 p.tall, .int .i64 p.lo, .int .i64 bh, .slice (some ⟨tg1, 0, none⟩) p.ats.length tc1, .slice (some ⟨tg2, 0, none⟩) p.gr.length tc2, .int .i64 (p.tall + up), .int .i64 p.lo, .int .i64 p.hi, .slice (some ⟨hg1, 0, none⟩) p.ats.length hc1, .slice (some ⟨hg2, 0, none⟩) p.gr.length hc2, .int .i64 p.tall, .int .i64 p.lo, .int .i64 p.hi] 27 (0, 0)) :: ((pf, Obj.cells #[.slice (some ⟨fg1, 0, none⟩) p.ats.length fc1, .slice (some ⟨fg2, 0, none⟩) p.gr.length fc2, .int .i64 p.tall, .int .i64 p.lo, .int .i64 bh] 27 (0, 0)) :: (pt, Obj.cells #[.slice (some ⟨tg1, 0, none⟩) p.ats.length tc1, .slice (some ⟨tg2, 0, none⟩) p.gr.length tc2, .int .i64 (p.tall + up), .int .i64 p.lo, .int .i64 p.hi] 27 (0, 0)) :: (ph, Obj.cells #[.slice (some ⟨hg1, 0, none⟩) p.ats.length hc1, .slice (some ⟨hg2, 0, none⟩) p.gr.length hc2, .int .i64 p.tall, .int .i64 p.lo, .int .i64 p.hi] 27 (0, 0)) :: [(q, Obj.cells #[.slice (some ⟨ha, 0, none⟩) p.ats.length hc, .slice (some ⟨ga, 0, none⟩) p.gr.length gc, .int .i64 p.tall, .int .i64 p.lo, .int .i64 p.hi] 27 (0, 0))])) W)) (fun i _ => 3 - (intOf i).toNat)
                case atStart => exact ⟨0, by omega, rfl, HKd⟩
                case round =>
                  as_aux_lemma =>
                    clear HKd
                    obtain ⟨k, hk, rfl, HK⟩ := hrel
                    by_cases hlt : k < 3
                    · obtain ⟨px, xa, xc, xb, xd, hcl, hma, hmg, hlk⟩ : ∃ (px : Pf) (xa xc xb xd : Nat), (wr.cell? ⟨qz, k * 5, none⟩ = some (.slice (some ⟨xa, 0, none⟩) p.ats.length xc) ∧ wr.cell? ⟨qz, k * 5 + 1, none⟩ = some (.slice (some ⟨xb, 0, none⟩) p.gr.length xd) ∧ wr.cell? ⟨qz, k * 5 + 2, none⟩ = some (.int .i64 px.tall) ∧ wr.cell? ⟨qz, k * 5 + 3, none⟩ = some (.int .i64 px.lo) ∧ wr.cell? ⟨qz, k * 5 + 4, none⟩ = some (.int .i64 px.hi)) ∧ rwI (.slice (some ⟨xa, 0, none⟩) p.ats.length xc) p.ats.length p.ats ∈ [rwI (.slice (some ⟨fg1, 0, none⟩) p.ats.length fc1) p.ats.length p.ats, rwS (.slice (some ⟨fg2, 0, none⟩) p.gr.length fc2) p.gr.length F, rwI (.slice (some ⟨tg1, 0, none⟩) p.ats.length tc1) p.ats.length p.ats, rwS (.slice (some ⟨tg2, 0, none⟩) p.gr.length tc2) p.gr.length p.gr, rwI (.slice (some ⟨hg1, 0, none⟩) p.ats.length hc1) p.ats.length p.ats, rwS (.slice (some ⟨hg2, 0, none⟩) p.gr.length hc2) p.gr.length G] ∧ rwS (.slice (some ⟨xb, 0, none⟩) p.gr.length xd) p.gr.length px.gr ∈ [rwI (.slice (some ⟨fg1, 0, none⟩) p.ats.length fc1) p.ats.length p.ats, rwS (.slice (some ⟨fg2, 0, none⟩) p.gr.length fc2) p.gr.length F, rwI (.slice (some ⟨tg1, 0, none⟩) p.ats.length tc1) p.ats.length p.ats, rwS (.slice (some ⟨tg2, 0, none⟩) p.gr.length tc2) p.gr.length p.gr, rwI (.slice (some ⟨hg1, 0, none⟩) p.ats.length hc1) p.ats.length p.ats, rwS (.slice (some ⟨hg2, 0, none⟩) p.gr.length hc2) p.gr.length G] ∧ Like3 p px k x y := by
                        have h := (HK.out.x (qz, Obj.cells #[.slice (some ⟨fg1, 0, none⟩) p.ats.length fc1, .slice (some ⟨fg2, 0, none⟩) p.gr.length fc2, .int .i64 p.tall, .int .i64 p.lo, .int .i64 bh, .slice (some ⟨tg1, 0, none⟩) p.ats.length tc1, .slice (some ⟨tg2, 0, none⟩) p.gr.length tc2, .int .i64 (p.tall + up), .int .i64 p.lo, .int .i64 p.hi, .slice (some ⟨hg1, 0, none⟩) p.ats.length hc1, .slice (some ⟨hg2, 0, none⟩) p.gr.length hc2, .int .i64 p.tall, .int .i64 p.lo, .int .i64 p.hi] 27 (0, 0)) List.mem_cons_self).2
                        have hc : k = 0 ∨ k = 1 ∨ k = 2 := by omega
                        rcases hc with rfl | rfl | rfl
                        · exact ⟨fineP p F bh, fg1, fc1, fg2, fc2, ⟨cell_of h rfl, cell_of h rfl, cell_of h rfl, cell_of h rfl, cell_of h rfl⟩, by simp, by show rwS _ _ F ∈ _; simp, like_fine HOK.out HFF.out HBH.out HXY.out.1 HXY.out.2 HND.out⟩
                        · exact ⟨p.at (p.tall + up), tg1, tc1, tg2, tc2, ⟨cell_of h rfl, cell_of h rfl, cell_of h rfl, cell_of h rfl, cell_of h rfl⟩, by simp, by show rwS _ _ p.gr ∈ _; simp, like_tall HOK.out hu0 (by omega) HXY.out.1 HXY.out.2⟩
                        · exact ⟨p.raise up, hg1, hc1, hg2, hc2, ⟨cell_of h rfl, cell_of h rfl, cell_of h rfl, cell_of h rfl, cell_of h rfl⟩, by simp, by rw [← HGG.out]; simp, like_raise HOK.out hu0 HNX.out.1 HNX.out.2.1 HNX.out.2.2 HXY.out.1 HXY.out.2 HND.out⟩
                      obtain ⟨b0, b1, b2, b3, b4⟩ := hcl
                      have HMA := Lib.hid (And.intro hma hmg)
                      have HLK := Lib.hid hlk
                      have hki : (k : Int) < 3 := by omega
                      clear hma hmg hlk
                      go_upto_region 32 with (fail)
                      clear b0 b1 b2 b3 b4
                      have HKa := Lib.hid (HK.out.lay (.cells #[.slice (some ⟨xa, 0, none⟩) p.ats.length xc, .slice (some ⟨xb, 0, none⟩) p.gr.length xd, .int .i64 px.tall, .int .i64 px.lo, .int .i64 px.hi] 27))
                      obtain ⟨qx, hqe⟩ : ∃ q, q = wr.heap.size := ⟨_, rfl⟩
                      simp only [← hqe] at HKa ⊢
                      generalize wr.alloc (.cells #[.slice (some ⟨xa, 0, none⟩) p.ats.length xc, .slice (some ⟨xb, 0, none⟩) p.gr.length xd, .int .i64 px.tall, .int .i64 px.lo, .int .i64 px.hi] 27) = wa at HKa ⊢
                      clear HK hqe
                      obtain ⟨b0, b1, b2, b3, b4⟩ := HKa.out.box5 (q := qx) (a := .slice (some ⟨xa, 0, none⟩) p.ats.length xc) (b := .slice (some ⟨xb, 0, none⟩) p.gr.length xd) (e := .int .i64 px.tall) (f := .int .i64 px.lo) (g := .int .i64 px.hi) (t := 27) (by simp)
                      go_wp2_with fail
                      refine (Fewest_any (p := px) (B := wa.heap.size) (Nat.le_refl _) (by rw [HLK.out.ats]; exact HKa.out.rsI (.inr HMA.out.1) rfl) (HKa.out.rsS (.inr HMA.out.2) HLK.out.gl)).mono ?_
                      rintro e W6 ⟨hb, h⟩
                      obtain ⟨mv, M, rfl, ho, hM, hM45⟩ : ∃ v L, e = .returned (.tuple #[v, .int .i64 0]) ∧ W6.ownsRow wa.heap.size 3 1 v L.length (ints (L.map Int.ofNat)) ∧ IsBest px.n px.sure (-1) (px.n - 1) 0 L ∧ L.length ≤ 45 := by
                        rcases h with ⟨h, -⟩ | ⟨-, h⟩
                        · exact absurd HLK.out.ok.err h
                        · exact h
                      have HKb := Lib.hid (HKa.out.addR hb (r := rwI mv M.length (M.map Int.ofNat)) ho)
                      have HFW := Lib.hid (HLK.out.few L M HL.out.1 hM)
                      obtain ⟨ma, mc, rfl⟩ : ∃ a cap, mv = .slice a M.length cap := row_form (r := rwI mv M.length (M.map Int.ofNat)) ho
                      have HM45 := Lib.hid hM45
                      clear h hb ho hM hM45 HKa b0 b1 b2 b3 b4
                      obtain ⟨b0, b1, b2, b3, b4⟩ := HKb.out.box5 (q := qx) (a := .slice (some ⟨xa, 0, none⟩) p.ats.length xc) (b := .slice (some ⟨xb, 0, none⟩) p.gr.length xd) (e := .int .i64 px.tall) (f := .int .i64 px.lo) (g := .int .i64 px.hi) (t := 27) (by simp)
                      go_wp2_with fail
                      refine (Tall_any (p := px) (B := W6.heap.size) (Nat.le_refl _) (by rw [HLK.out.ats]; exact HKb.out.rsI (.inr HMA.out.1) rfl) (HKb.out.rsS (.inr HMA.out.2) HLK.out.gl)).mono ?_
                      rintro e W7 ⟨rfl, hb⟩
                      have HKc := Lib.hid (HKb.out.grow hb)
                      rw [tall_ok HLK.out.ok HXY.out.1 (by rw [HLK.out.n]; exact HXY.out.2) (Int.le_trans HLK.out.need HND.out)]
                      obtain ⟨tn, htn⟩ : ∃ tn, tn = px.need x y := ⟨_, rfl⟩
                      rw [← htn]
                      have HTN : Hid (tn ≤ n ∧ (k ≠ 0 → tn = n)) := Lib.hid (by rw [htn, HN.out]; exact ⟨HLK.out.need, HLK.out.same⟩)
                      clear htn hb HKb b0 b1 b2 b3 b4
                      have dd1 : decide (L.length < M.length) = false := by rw [decide_eq_false_iff_not]; have := HFW.out.1; omega
                      have dd2 : decide (n < tn) = false := by rw [decide_eq_false_iff_not]; have := HTN.out.1; omega
                      go_upto_region 34 with (fail)
                      go_cut [252] from 207 to 251 (fun s252 wx => s252 = .bool false ∧ Hid (Mem w S d1 (c + 1) (rwI (.slice ma M.length mc) M.length (M.map Int.ofNat) :: rwI (.slice la L.length lc) L.length (L.map Int.ofNat) :: [rwI (.slice (some ⟨ha, 0, none⟩) p.ats.length hc) p.ats.length p.ats, rwS (.slice (some ⟨ga, 0, none⟩) p.gr.length gc) p.gr.length p.gr, rwI (.slice (some ⟨ta, 0, none⟩) T.length tc) T.length T]) [rwI (.slice (some ⟨fg1, 0, none⟩) p.ats.length fc1) p.ats.length p.ats, rwS (.slice (some ⟨fg2, 0, none⟩) p.gr.length fc2) p.gr.length F, rwI (.slice (some ⟨tg1, 0, none⟩) p.ats.length tc1) p.ats.length p.ats, rwS (.slice (some ⟨tg2, 0, none⟩) p.gr.length tc2) p.gr.length p.gr, rwI (.slice (some ⟨hg1, 0, none⟩) p.ats.length hc1) p.ats.length p.ats, rwS (.slice (some ⟨hg2, 0, none⟩) p.gr.length hc2) p.gr.length G] ((qx, Obj.cells #[.slice (some ⟨xa, 0, none⟩) p.ats.length xc, .slice (some ⟨xb, 0, none⟩) p.gr.length xd, .int .i64 px.tall, .int .i64 px.lo, .int .i64 px.hi] 27 (0, 0)) :: (qz, Obj.cells #[.slice (some ⟨fg1, 0, none⟩) p.ats.length fc1, .slice (some ⟨fg2, 0, none⟩) p.gr.length fc2, .int .i64 p.tall, .int .i64 p.lo, .int .i64 bh, .slice (some ⟨tg1, 0, none⟩) p.ats.length tc1, .slice (some ⟨tg2, 0, none⟩) p.gr.length tc2, .int .i64 (p.tall + up), .int .i64 p.lo, .int .i64 p.hi, .slice (some ⟨hg1, 0, none⟩) p.ats.length hc1, .slice (some ⟨hg2, 0, none⟩) p.gr.length hc2, .int .i64 p.tall, .int .i64 p.lo, .int .i64 p.hi] 27 (0, 0)) :: ((pf, Obj.cells #[.slice (some ⟨fg1, 0, none⟩) p.ats.length fc1, .slice (some ⟨fg2, 0, none⟩) p.gr.length fc2, .int .i64 p.tall, .int .i64 p.lo, .int .i64 bh] 27 (0, 0)) :: (pt, Obj.cells #[.slice (some ⟨tg1, 0, none⟩) p.ats.length tc1, .slice (some ⟨tg2, 0, none⟩) p.gr.length tc2, .int .i64 (p.tall + up), .int .i64 p.lo, .int .i64 p.hi] 27 (0, 0)) :: (ph, Obj.cells #[.slice (some ⟨hg1, 0, none⟩) p.ats.length hc1, .slice (some ⟨hg2, 0, none⟩) p.gr.length hc2, .int .i64 p.tall, .int .i64 p.lo, .int .i64 p.hi] 27 (0, 0)) :: [(q, Obj.cells #[.slice (some ⟨ha, 0, none⟩) p.ats.length hc, .slice (some ⟨ga, 0, none⟩) p.gr.length gc, .int .i64 p.tall, .int .i64 p.lo, .int .i64 p.hi] 27 (0, 0))])) wx))
                      case first =>
                        as_aux_lemma =>
                          have hc : k = 0 ∨ k = 1 ∨ k = 2 := by omega
                          rcases hc with rfl | rfl | rfl
                          · go_wp2
                            go_meet
                            case rel => exact ⟨rfl, HKc⟩
                          · obtain rfl := HTN.out.2 (by omega)
                            have dd3 : (tn != tn) = false := by simp
                            go_wp2
                            go_meet
                            case rel => exact ⟨rfl, HKc⟩
                          · obtain rfl := HTN.out.2 (by omega)
                            have dd3 : (tn != tn) = false := by simp
                            obtain rfl := HFW.out.2 rfl
                            go_wp2_with fail
                            refine (equal_ints (l1 := M.map Int.ofNat) (l2 := M.map Int.ofNat) (by rw [List.length_map]; have := HM45.out; omega) (HKc.out.rsI (v := .slice la M.length lc) (n := M.length) (.inl (List.mem_cons_of_mem _ List.mem_cons_self)) (by simp)) (HKc.out.rsI (v := .slice ma M.length mc) (n := M.length) (.inl List.mem_cons_self) (by simp))).mono ?_
                            rintro e W8 ⟨rfl, hb⟩
                            have HKe := Lib.hid (HKc.out.grow hb)
                            rw [show decide (M.map Int.ofNat = M.map Int.ofNat) = true from by simp]
                            clear hb HKc
                            go_wp2
                            go_meet
                            case rel => exact ⟨rfl, HKe⟩
                      case rest =>
                        as_aux_lemma =>
                          obtain ⟨rfl, HKe⟩ := hcut
                          have HKf : Hid (Mem w S d1 (c + 1) (rwI (.slice la L.length lc) L.length (L.map Int.ofNat) :: [rwI (.slice (some ⟨ha, 0, none⟩) p.ats.length hc) p.ats.length p.ats, rwS (.slice (some ⟨ga, 0, none⟩) p.gr.length gc) p.gr.length p.gr, rwI (.slice (some ⟨ta, 0, none⟩) T.length tc) T.length T]) [rwI (.slice (some ⟨fg1, 0, none⟩) p.ats.length fc1) p.ats.length p.ats, rwS (.slice (some ⟨fg2, 0, none⟩) p.gr.length fc2) p.gr.length F, rwI (.slice (some ⟨tg1, 0, none⟩) p.ats.length tc1) p.ats.length p.ats, rwS (.slice (some ⟨tg2, 0, none⟩) p.gr.length tc2) p.gr.length p.gr, rwI (.slice (some ⟨hg1, 0, none⟩) p.ats.length hc1) p.ats.length p.ats, rwS (.slice (some ⟨hg2, 0, none⟩) p.gr.length hc2) p.gr.length G] ((qx, Obj.cells #[.slice (some ⟨xa, 0, none⟩) p.ats.length xc, .slice (some ⟨xb, 0, none⟩) p.gr.length xd, .int .i64 px.tall, .int .i64 px.lo, .int .i64 px.hi] 27 (0, 0)) :: (qz, Obj.cells #[.slice (some ⟨fg1, 0, none⟩) p.ats.length fc1, .slice (some ⟨fg2, 0, none⟩) p.gr.length fc2, .int .i64 p.tall, .int .i64 p.lo, .int .i64 bh, .slice (some ⟨tg1, 0, none⟩) p.ats.length tc1, .slice (some ⟨tg2, 0, none⟩) p.gr.length tc2, .int .i64 (p.tall + up), .int .i64 p.lo, .int .i64 p.hi, .slice (some ⟨hg1, 0, none⟩) p.ats.length hc1, .slice (some ⟨hg2, 0, none⟩) p.gr.length hc2, .int .i64 p.tall, .int .i64 p.lo, .int .i64 p.hi] 27 (0, 0)) :: ((pf, Obj.cells #[.slice (some ⟨fg1, 0, none⟩) p.ats.length fc1, .slice (some ⟨fg2, 0, none⟩) p.gr.length fc2, .int .i64 p.tall, .int .i64 p.lo, .int .i64 bh] 27 (0, 0)) :: (pt, Obj.cells #[.slice (some ⟨tg1, 0, none⟩) p.ats.length tc1, .slice (some ⟨tg2, 0, none⟩) p.gr.length tc2, .int .i64 (p.tall + up), .int .i64 p.lo, .int .i64 p.hi] 27 (0, 0)) :: (ph, Obj.cells #[.slice (some ⟨hg1, 0, none⟩) p.ats.length hc1, .slice (some ⟨hg2, 0, none⟩) p.gr.length hc2, .int .i64 p.tall, .int .i64 p.lo, .int .i64 p.hi] 27 (0, 0)) :: [(q, Obj.cells #[.slice (some ⟨ha, 0, none⟩) p.ats.length hc, .slice (some ⟨ga, 0, none⟩) p.gr.length gc, .int .i64 p.tall, .int .i64 p.lo, .int .i64 p.hi] 27 (0, 0))])) wc) := Lib.hid (HKe.out.less (fun _ h => List.mem_cons_of_mem _ h) (List.Sublist.refl _) (List.Sublist.refl _))
                          clear HKc HKe dd1 dd2
                          obtain ⟨b0, b1, b2, b3, b4⟩ := HKf.out.box5 (q := q) (a := .slice (some ⟨ha, 0, none⟩) p.ats.length hc) (b := .slice (some ⟨ga, 0, none⟩) p.gr.length gc) (e := .int .i64 p.tall) (f := .int .i64 p.lo) (g := .int .i64 p.hi) (t := 27) (by simp)
                          go_wp2_with fail
                          refine (Sees_any (p := p) (B := wc.heap.size) (Nat.le_refl _) (HKf.out.rsI (v := .slice (some ⟨ha, 0, none⟩) p.ats.length hc) (n := p.ats.length) (.inl (by simp)) rfl) (HKf.out.rsS (v := .slice (some ⟨ga, 0, none⟩) p.gr.length gc) (n := p.gr.length) (.inl (by simp)) rfl)).mono ?_
                          rintro e W9 ⟨rfl, hb⟩
                          have HKg := Lib.hid (HKf.out.grow hb)
                          rw [sees_ok HOK.out (Nat.lt_trans HXY.out.1 HXY.out.2) HXY.out.2 (by have := HXY.out; omega)]
                          obtain ⟨cn, hcn⟩ : ∃ cn, cn = p.sees true false x y := ⟨_, rfl⟩
                          obtain ⟨sr, hsr⟩ : ∃ sr, sr = p.sure x y := ⟨_, rfl⟩
                          rw [← hcn, ← hsr]
                          have HSR := Lib.hid hsr
                          clear hcn hsr hb HKf b0 b1 b2 b3 b4
                          obtain ⟨b0, b1, b2, b3, b4⟩ := HKg.out.box5 (q := qx) (a := .slice (some ⟨xa, 0, none⟩) p.ats.length xc) (b := .slice (some ⟨xb, 0, none⟩) p.gr.length xd) (e := .int .i64 px.tall) (f := .int .i64 px.lo) (g := .int .i64 px.hi) (t := 27) (by simp)
                          go_wp2_with fail
                          refine (Sees_any (p := px) (B := W9.heap.size) (Nat.le_refl _) (by rw [HLK.out.ats]; exact HKg.out.rsI (.inr HMA.out.1) rfl) (HKg.out.rsS (.inr HMA.out.2) HLK.out.gl)).mono ?_
                          rintro e W10 ⟨rfl, hb⟩
                          have HKh : Hid (Mem w S d1 (c + 1) (rwI (.slice la L.length lc) L.length (L.map Int.ofNat) :: [rwI (.slice (some ⟨ha, 0, none⟩) p.ats.length hc) p.ats.length p.ats, rwS (.slice (some ⟨ga, 0, none⟩) p.gr.length gc) p.gr.length p.gr, rwI (.slice (some ⟨ta, 0, none⟩) T.length tc) T.length T]) [rwI (.slice (some ⟨fg1, 0, none⟩) p.ats.length fc1) p.ats.length p.ats, rwS (.slice (some ⟨fg2, 0, none⟩) p.gr.length fc2) p.gr.length F, rwI (.slice (some ⟨tg1, 0, none⟩) p.ats.length tc1) p.ats.length p.ats, rwS (.slice (some ⟨tg2, 0, none⟩) p.gr.length tc2) p.gr.length p.gr, rwI (.slice (some ⟨hg1, 0, none⟩) p.ats.length hc1) p.ats.length p.ats, rwS (.slice (some ⟨hg2, 0, none⟩) p.gr.length hc2) p.gr.length G] ((qz, Obj.cells #[.slice (some ⟨fg1, 0, none⟩) p.ats.length fc1, .slice (some ⟨fg2, 0, none⟩) p.gr.length fc2, .int .i64 p.tall, .int .i64 p.lo, .int .i64 bh, .slice (some ⟨tg1, 0, none⟩) p.ats.length tc1, .slice (some ⟨tg2, 0, none⟩) p.gr.length tc2, .int .i64 (p.tall + up), .int .i64 p.lo, .int .i64 p.hi, .slice (some ⟨hg1, 0, none⟩) p.ats.length hc1, .slice (some ⟨hg2, 0, none⟩) p.gr.length hc2, .int .i64 p.tall, .int .i64 p.lo, .int .i64 p.hi] 27 (0, 0)) :: ((pf, Obj.cells #[.slice (some ⟨fg1, 0, none⟩) p.ats.length fc1, .slice (some ⟨fg2, 0, none⟩) p.gr.length fc2, .int .i64 p.tall, .int .i64 p.lo, .int .i64 bh] 27 (0, 0)) :: (pt, Obj.cells #[.slice (some ⟨tg1, 0, none⟩) p.ats.length tc1, .slice (some ⟨tg2, 0, none⟩) p.gr.length tc2, .int .i64 (p.tall + up), .int .i64 p.lo, .int .i64 p.hi] 27 (0, 0)) :: (ph, Obj.cells #[.slice (some ⟨hg1, 0, none⟩) p.ats.length hc1, .slice (some ⟨hg2, 0, none⟩) p.gr.length hc2, .int .i64 p.tall, .int .i64 p.lo, .int .i64 p.hi] 27 (0, 0)) :: [(q, Obj.cells #[.slice (some ⟨ha, 0, none⟩) p.ats.length hc, .slice (some ⟨ga, 0, none⟩) p.gr.length gc, .int .i64 p.tall, .int .i64 p.lo, .int .i64 p.hi] 27 (0, 0))])) W10) := Lib.hid ((HKg.out.grow hb).less (fun _ h => h) (List.Sublist.refl _) (List.sublist_cons_self _ _))
                          rw [sees_ok HLK.out.ok (by rw [HLK.out.n]; exact Nat.lt_trans HXY.out.1 HXY.out.2) (by rw [HLK.out.n]; exact HXY.out.2) (by have := HXY.out; omega)]
                          obtain ⟨cx, hcx⟩ : ∃ cx, cx = px.sees true false x y := ⟨_, rfl⟩
                          obtain ⟨sx, hsx⟩ : ∃ sx, sx = px.sure x y := ⟨_, rfl⟩
                          rw [← hcx, ← hsx]
                          have HSX : Hid (sr = true → sx = true) := Lib.hid (by rw [HSR.out, hsx]; exact HLK.out.sure)
                          clear hcx hsx hb HKg b0 b1 b2 b3 b4
                          go_upto_region 38 with (fail)
                          go_cut [281] from 269 to 280 (fun s281 wx => s281 = .bool false ∧ wx = W10)
                          case first =>
                            as_aux_lemma =>
                              cases sr with
                              | true =>
                                obtain rfl : sx = true := HSX.out rfl
                                go_wp2
                                go_meet
                                case rel => exact ⟨rfl, rfl⟩
                              | false =>
                                go_wp2
                                go_meet
                                case rel => exact ⟨rfl, rfl⟩
                          case rest =>
                            as_aux_lemma =>
                              obtain ⟨rfl, rfl⟩ := hcut
                              go_wp2
                              go_roundw
                              case rel => exact ⟨k + 1, by omega, by go_num, HKh⟩
                              case measure => simp [intOf]; omega
                    · have hke : ¬ (k : Int) < 3 := by omega
                      go_wp2_with fail
                      refine (awake_any _).mono ?_
                      rintro e wz ⟨rfl, hb⟩
                      have HB := Lib.hid (HK.out.b.trans (hb.mono HK.out.b.size))
                      clear hb
                      go_wp2
                      go_ret
                      exact ⟨rfl, HB.out⟩
end Go.Proofs.Ytobmhamdkngehaa
