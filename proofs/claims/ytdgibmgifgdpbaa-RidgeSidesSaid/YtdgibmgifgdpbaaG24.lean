/-
  Parts of the proof, in the order in which they build: LawG.
-/
import Derived.Test.YtdgibmgifgdpbaaG18
import Derived.Test.YtdgibmgifgdpbaaG23
set_option linter.unusedVariables false
set_option linter.unusedSimpArgs false
namespace Go.Proofs.Ytdgibmgifgdpbaa
open Go.RowKit Go.Shelf
open Lim

/-- what lies there behind the reference's ground -/
structure GV (w : World) (wd : Int) (hv sv : Value) (hs : List (Int × Int)) (ss : List Int) (q : Nat) (h2 s2 : Value) (W : World) : Prop where
  b : Below w.heap.size w W
  g : W.cell? ⟨w.heap.size, 0, none⟩ = some (.int .i64 wd) ∧ W.cell? ⟨w.heap.size, 1, none⟩ = some hv ∧ W.cell? ⟨w.heap.size, 2, none⟩ = some sv
  r : W.cell? ⟨q, 0, none⟩ = some (.int .i64 wd) ∧ W.cell? ⟨q, 1, none⟩ = some h2 ∧ W.cell? ⟨q, 2, none⟩ = some s2
  h2 : RS W.heap.size W h2 hs.length (spans hs)
  s2 : RS W.heap.size W s2 ss.length (ints ss)
theorem GV.grow {w : World} {wd : Int} {hv sv : Value} {hs : List (Int × Int)} {ss : List Int} {q : Nat} {h2 s2 : Value} {W W' : World} (H : GV w wd hv sv hs ss q h2 s2 W) (hb : Below W.heap.size W W') : GV w wd hv sv hs ss q h2 s2 W' :=
  ⟨H.b.trans (hb.mono H.b.size), ⟨cell_on hb H.g.1, cell_on hb H.g.2.1, cell_on hb H.g.2.2⟩, ⟨cell_on hb H.r.1, cell_on hb H.r.2.1, cell_on hb H.r.2.2⟩, (H.h2.below hb).mono hb.size, (H.s2.below hb).mono hb.size⟩
def wantTo (o : Nat → Bool) (k : Nat) : List Nat := (List.range k).filter fun c => doubtB (o (c * 3), o (c * 3 + 1), o (c * 3 + 2))
theorem wantTo_succ (o : Nat → Bool) (k : Nat) : wantTo o (k + 1) = if doubtB (o (k * 3), o (k * 3 + 1), o (k * 3 + 2)) = true then wantTo o k ++ [k] else wantTo o k := by
  unfold wantTo
  rw [List.range_succ, List.filter_append, List.filter_cons, List.filter_nil]
  split
  · rename_i h; simp only [h, if_true]
  · rename_i h; simp only [h, if_false, List.append_nil]
theorem wantTo_len (o : Nat → Bool) (k : Nat) : (wantTo o k).length ≤ k := Nat.le_trans (List.length_filter_le _ _) (by simp)

theorem fit_of {wd : Int} {hs : List (Int × Int)} {ss : List Int} (h : trsTo ⟨wd.toNat, hs, ss⟩ ss.length < 1000000) : Fit wd hs ss := fun _ => h
theorem truths_wd {B : Nat} {wd : Int} {hv sv : Value} {hs : List (Int × Int)} {ss : List Int} {w : World} (he : openErr wd hs ss = 0) (hB : B ≤ w.heap.size) (hh : RS B w hv hs.length (spans hs)) (hss : RS B w sv ss.length (ints ss)) :
    Calls Try.prog 17 #[.agg #[.int .i64 wd, hv, sv]] w fun e w' => e = .returned (.int .i64 (trsTo ⟨wd.toNat, hs, ss⟩ ss.length)) ∧ Below w.heap.size w w' := by
  obtain ⟨m, rfl⟩ := open_nat he
  exact truths_any hB hh hss (openErr_ok he) (spans_ok he)
theorem run_index_tri (a b c : Bool) {j : Nat} (hj : j < 3) (w : World) : (Instr.index 42 (.agg #[.bool a, .bool b, .bool c]) (.int .i64 j)).run Try.prog w = .ok (.bool (if j = 0 then a else if j = 1 then b else c)) w := by
  have hu : (underlying 42).run Try.prog w = .ok (.array 3 4) w := run_underlying Try.underlying42 ..
  have h3 : j = 0 ∨ j = 1 ∨ j = 2 := by omega
  rcases h3 with rfl | rfl | rfl <;> simp [Instr.index, asIntOf, hu, part, Try.isAgg4, Try.sizeOf4]

set_option maxRecDepth 20000 in
set_option maxHeartbeats 8000000 in
theorem sidesl_any {B : Nat} {wd : Int} {hv sv : Value} {hs : List (Int × Int)} {ss : List Int} {w : World} (hB : B ≤ w.heap.size) (hh : RS B w hv hs.length (spans hs)) (hss : RS B w sv ss.length (ints ss)) :
    Calls Try.prog 3 #[.agg #[.int .i64 wd, hv, sv]] w fun e w' => e = .returned (.bool true) ∧ Below w.heap.size w w' := by
  have B0 : Below w.heap.size w (w.alloc (.cells #[.int .i64 wd, hv, sv] 25)) := (Below.refl _ w).alloc (Nat.le_refl _) _
  have CG := Lib.hid (great_any (B := B) (wd := wd) (w := w.alloc (.cells #[.int .i64 wd, hv, sv] 25)) (hh.below (B0.mono hB)) (hss.below (B0.mono hB)))
  have HHS := Lib.hid (And.intro hh hss)
  have HB := Lib.hid hB
  obtain ⟨ha, hcap, rfl, -⟩ := hh
  obtain ⟨sa, scap, rfl, -⟩ := hss
  clear hB
  have g0 : (w.alloc (.cells #[.int .i64 wd, .slice ha hs.length hcap, .slice sa ss.length scap] 25)).cell? ⟨w.heap.size, 0, none⟩ = some (.int .i64 wd) := by simp [go_sem]
  have g1 : (w.alloc (.cells #[.int .i64 wd, .slice ha hs.length hcap, .slice sa ss.length scap] 25)).cell? ⟨w.heap.size, 1, none⟩ = some (.slice ha hs.length hcap) := by simp [go_sem]
  have g2 : (w.alloc (.cells #[.int .i64 wd, .slice ha hs.length hcap, .slice sa ss.length scap] 25)).cell? ⟨w.heap.size, 2, none⟩ = some (.slice sa ss.length scap) := by simp [go_sem]
  have HF := Lib.hid (And.intro B0 (And.intro g0 (And.intro g1 g2)))
  clear g0 g1 g2 B0
  go_enter Try.func3, Try.ntmps3
  go_wp2_with fail
  refine CG.out.mono ?_
  clear CG
  rintro e w1 ⟨⟨b, rfl, hgb⟩, hb⟩
  have HF1 := Lib.hid (And.intro (HF.out.1.trans (hb.mono HF.out.1.size)) (And.intro (cell_on hb HF.out.2.1) (And.intro (cell_on hb HF.out.2.2.1) (cell_on hb HF.out.2.2.2))))
  have HGB := Lib.hid hgb
  clear HF hb hgb
  cases b with
  | true =>
    go_wp2_with fail
    refine (awake_any _).mono ?_
    rintro e wz ⟨rfl, hbz⟩
    have HBZ := Lib.hid ((HF1.out.1).trans (hbz.mono (HF1.out.1).size))
    clear hbz
    go_wp2
    go_ret
    exact ⟨rfl, HBZ.out⟩
  | false =>
    have HL := Lib.hid (HGB.out rfl)
    clear HGB
    obtain ⟨g0, g1, g2⟩ := HF1.out.2
    go_wp2_with fail
    refine (lground_any (B := B) (wd := wd) (by have h1 := HB.out; have h2 := HF1.out.1.size; omega) (HHS.out.1.below (HF1.out.1.mono HB.out)) (HHS.out.2.below (HF1.out.1.mono HB.out)) (by have := HL.out; omega) (by have := HL.out; omega)).mono ?_
    rintro e w2 ⟨h2v, s2v, rfl, o1, o2, hb⟩
    obtain ⟨a1, c1, rfl, -⟩ := RS.of_owns o1
    obtain ⟨a2, c2, rfl, -⟩ := RS.of_owns o2
    have hb2 : Below w2.heap.size w2 (w2.alloc (.cells #[.int .i64 wd, .slice a1 hs.length c1, .slice a2 ss.length c2] 28)) := (Below.refl _ _).alloc (Nat.le_refl _) _
    have HG3 : Hid (GV w wd (.slice ha hs.length hcap) (.slice sa ss.length scap) hs ss w2.heap.size (.slice a1 hs.length c1) (.slice a2 ss.length c2) (w2.alloc (.cells #[.int .i64 wd, .slice a1 hs.length c1, .slice a2 ss.length c2] 28))) := Lib.hid
      ⟨HF1.out.1.trans ((hb.trans (hb2.mono hb.size)).mono HF1.out.1.size), ⟨cell_on hb2 (cell_on hb g0), cell_on hb2 (cell_on hb g1), cell_on hb2 (cell_on hb g2)⟩,
       ⟨cell_new w2 _ _ 0 (by simp), cell_new w2 _ _ 1 (by simp), cell_new w2 _ _ 2 (by simp)⟩, rs_grow (RS.of_owns o1) hb2, rs_grow (RS.of_owns o2) hb2⟩
    clear hb hb2 o1 o2 g0 g1 g2 HF1
    obtain ⟨r0, r1, r2⟩ := HG3.out.r
    go_wp2_with fail
    obtain ⟨q, hq⟩ : ∃ q, q = w2.heap.size := ⟨_, rfl⟩
    rw [← hq] at HG3 r0 r1 r2 ⊢
    clear hq
    generalize (w2.alloc (.cells #[.int .i64 wd, .slice a1 hs.length c1, .slice a2 ss.length c2] 28)) = w3 at HG3 r0 r1 r2 ⊢
    refine (rcheck_any (B := w3.heap.size) (Nat.le_refl _) HG3.out.h2 HG3.out.s2).mono ?_
    rintro e w4 ⟨rfl, hb⟩
    have HG4 := Lib.hid (HG3.out.grow hb)
    clear hb HG3 r0 r1 r2
    by_cases he : openErr wd hs ss = 0
    · have he1 : (openErr wd hs ss == 0) = true := by simp [he]
      have HE := Lib.hid he
      clear he
      obtain ⟨g0, g1, g2⟩ := HG4.out.g
      obtain ⟨r0, r1, r2⟩ := HG4.out.r
      by_cases h16 : (16 : Int) < (hs.length : Nat)
      · have d1 : decide ((16 : Int) < (hs.length : Nat)) = true := by simpa using h16
        clear h16
        go_wp2_with fail
        refine (awake_any _).mono ?_
        rintro e wz ⟨rfl, hbz⟩
        have HBZ := Lib.hid ((HG4.out.b).trans (hbz.mono (HG4.out.b).size))
        clear hbz
        go_wp2
        go_ret
        exact ⟨rfl, HBZ.out⟩
      · have d1 : decide ((16 : Int) < (hs.length : Nat)) = false := by simpa using h16
        clear h16
        go_wp2_with fail
        refine (truths_wd (B := w4.heap.size) HE.out (Nat.le_refl _) HG4.out.h2 HG4.out.s2).mono ?_
        rintro e w4b ⟨rfl, hb⟩
        have HG4b := Lib.hid (HG4.out.grow hb)
        clear hb HG4 g0 g1 g2 r0 r1 r2
        obtain ⟨N, hN⟩ : ∃ N, N = trsTo ⟨wd.toNat, hs, ss⟩ ss.length := ⟨_, rfl⟩
        rw [← hN]
        have HN := Lib.hid hN
        clear hN
        by_cases h150 : (150 : Int) < N
        · have d2 : decide ((150 : Int) < N) = true := by simpa using h150
          clear h150
          go_wp2_with fail
          refine (awake_any _).mono ?_
          rintro e wz ⟨rfl, hbz⟩
          have HBZ := Lib.hid ((HG4b.out.b).trans (hbz.mono (HG4b.out.b).size))
          clear hbz
          go_wp2
          go_ret
          exact ⟨rfl, HBZ.out⟩
        · have d2 : decide ((150 : Int) < N) = false := by simpa using h150
          have HFIT : Hid (Fit wd hs ss) := Lib.hid (fit_of (by rw [← HN.out]; omega))
          clear h150
          obtain ⟨g0, g1, g2⟩ := HG4b.out.g
          go_wp2_with fail
          refine (lclone_any (B := B) (wd := wd) (by have h1 := HB.out; have h2 := HG4b.out.b.size; omega) (HHS.out.1.below (HG4b.out.b.mono HB.out)) (HHS.out.2.below (HG4b.out.b.mono HB.out)) (by have := HL.out; omega) (by have := HL.out; omega)).mono ?_
          rintro e w5 ⟨h1v, s1v, rfl, o1, o2, hb⟩
          obtain ⟨a3, c3, rfl, -⟩ := RS.of_owns o1
          obtain ⟨a4, c4, rfl, -⟩ := RS.of_owns o2
          have hb2 : Below w5.heap.size w5 (w5.alloc (.cells #[.int .i64 wd, .slice a3 hs.length c3, .slice a4 ss.length c4] 25)) := (Below.refl _ _).alloc (Nat.le_refl _) _
          have HG6 : Hid (GS w wd (.slice ha hs.length hcap) (.slice sa ss.length scap) hs ss [] w5.heap.size q (.slice a3 hs.length c3) (.slice a4 ss.length c4) (.slice a1 hs.length c1) (.slice a2 ss.length c2) (.slice none 0 0) (w5.alloc (.cells #[.int .i64 wd, .slice a3 hs.length c3, .slice a4 ss.length c4] 25))) := Lib.hid (by
            have H := (HG4b.out.grow hb).grow hb2
            exact ⟨H.b, H.g, ⟨cell_new w5 _ _ 0 (by simp), cell_new w5 _ _ 1 (by simp), cell_new w5 _ _ 2 (by simp)⟩, H.r, rs_grow (RS.of_owns o1) hb2, rs_grow (RS.of_owns o2) hb2, H.h2, H.s2, RS.nil _ _⟩)
          clear hb hb2 o1 o2 g0 g1 g2 HG4b
          obtain ⟨o0, o1, o2⟩ := HG6.out.o
          go_wp2_with fail
          obtain ⟨p, hp⟩ : ∃ p, p = w5.heap.size := ⟨_, rfl⟩
          rw [← hp] at HG6 o0 o1 o2 ⊢
          clear hp
          generalize (w5.alloc (.cells #[.int .i64 wd, .slice a3 hs.length c3, .slice a4 ss.length c4] 25)) = w6 at HG6 o0 o1 o2 ⊢
          refine (Sides_any (B := w6.heap.size) (Nat.le_refl _) HG6.out.h1 HG6.out.s1).mono ?_
          rintro e w7 ⟨va, er, l, rfl, hb, hsa, hoa⟩
          have HG7 := Lib.hid (HG6.out.grow hb)
          have HSA := Lib.hid hsa
          have HOA := Lib.hid (RS.of_owns hoa)
          obtain ⟨aa, ac, rfl, -⟩ := RS.of_owns hoa
          clear hb hsa hoa HG6 o0 o1 o2
          obtain ⟨r0, r1, r2⟩ := HG7.out.r
          go_wp2_with fail
          refine (rsides_all (B := w7.heap.size) (Nat.le_refl _) HG7.out.h2 HG7.out.s2).mono ?_
          rintro e w8 ⟨vb, er', n, o, rfl, hob, hrs, hb⟩
          obtain ⟨rfl, hln, hn100, htri⟩ := sides_agree HFIT.out HSA.out hrs
          have HG8 := Lib.hid (HG7.out.grow hb)
          have HRS := Lib.hid hrs
          have HTRI := Lib.hid htri
          have HOB := Lib.hid (And.intro (rs_grow HOA.out hb) (RS.of_owns hob))
          obtain ⟨ba, bc, rfl, -⟩ := RS.of_owns hob
          have HLN := Lib.hid hln
          rw [hln] at HOB ⊢
          have hne : (er != er) = false := by simp
          have hne2 : ((n : Int) != (n : Int)) = false := by simp
          clear hb hrs hob htri HG7 HOA HSA r0 r1 r2 hln
          go_wp2_with fail
          obtain ⟨i0, hi, hz0, hz1, hz2⟩ := info_parts Try.infoInt
          have HI := Lib.hid (And.intro hi (And.intro hz0 (And.intro hz1 hz2)))
          clear hi hz0 hz1 hz2 hne hne2
          go_loopw [9, 61] (fun v i wr => ∃ k : Nat, k ≤ n ∧ i = .int .i64 k ∧ Hid (wr.ownsRow w8.heap.size 3 1 v (wantTo o k).length (ints ((wantTo o k).map Int.ofNat))) ∧ Hid (Below w8.heap.size w8 wr)) (fun _ i _ => n - (intOf i).toNat)
          case atStart => exact ⟨0, Nat.zero_le _, rfl, Lib.hid (World.ownsRow_nil _ _ _ _), Lib.hid (Below.refl _ _)⟩
          case round =>
            obtain ⟨k, hk, rfl, hV, hbr⟩ := hrel
            by_cases hlt : k < n
            · have hkb : (k : Int) < 1000 := by omega
              obtain ⟨aa', ac', e1, g1⟩ := HOB.out.1
              obtain ⟨ba', bc', e2, g2⟩ := HOB.out.2
              obtain ⟨ab, aoff, h1, hab, hac⟩ := g1 (fun e => by have := sideCells_length l; rw [e, HLN.out] at this; simp at this; omega)
              obtain ⟨bb, boff, h2, hbb, hbc⟩ := g2 (fun e => by have := bl_length (n * 3) o; rw [e] at this; simp at this; omega)
              have e1' : aa = some ⟨ab, aoff, none⟩ := by rw [← h1]; injection e1
              have e2' : ba = some ⟨bb, boff, none⟩ := by rw [← h2]; injection e2
              subst e1' e2'
              obtain ⟨x0, hx0⟩ : ∃ x, x = o (k * 3) := ⟨_, rfl⟩
              obtain ⟨x1, hx1⟩ : ∃ x, x = o (k * 3 + 1) := ⟨_, rfl⟩
              obtain ⟨x2, hx2⟩ : ∃ x, x = o (k * 3 + 2) := ⟨_, rfl⟩
              have hsc := sideCells_at l k (by have := HLN.out; omega)
              rw [HTRI.out k hlt, ← hx0, ← hx1, ← hx2] at hsc
              have q0 : wr.cell? ⟨ab, aoff + k * 3, none⟩ = some (.bool x0) := cell_on hbr.out (hac _ _ hsc.1)
              have q1 : wr.cell? ⟨ab, aoff + k * 3 + 1, none⟩ = some (.bool x1) := cell_on hbr.out (hac _ _ hsc.2.1)
              have q2 : wr.cell? ⟨ab, aoff + k * 3 + 2, none⟩ = some (.bool x2) := cell_on hbr.out (hac _ _ hsc.2.2)
              have p0 : wr.cell? ⟨bb, boff + k * 3, none⟩ = some (.bool x0) := cell_on hbr.out (hbc (k * 3) _ (by rw [bl_at _ (by omega), hx0]))
              have p1 : wr.cell? ⟨bb, boff + k * 3 + 1, none⟩ = some (.bool x1) := cell_on hbr.out (hbc (k * 3 + 1) _ (by rw [bl_at _ (by omega), hx1]))
              have p2 : wr.cell? ⟨bb, boff + k * 3 + 2, none⟩ = some (.bool x2) := cell_on hbr.out (hbc (k * 3 + 2) _ (by rw [bl_at _ (by omega), hx2]))
              have HWS : Hid (wantTo o (k + 1) = if doubtB (x0, x1, x2) = true then wantTo o k ++ [k] else wantTo o k) := Lib.hid (by rw [wantTo_succ, ← hx0, ← hx1, ← hx2])
              have k0 : (x0 == x0) = true := by cases x0 <;> rfl
              have k1 : (x1 == x1) = true := by cases x1 <;> rfl
              have k2 : (x2 == x2) = true := by cases x2 <;> rfl
              clear hx0 hx1 hx2 hsc hac hbc g1 g2 h1 h2 e1 e2
              go_wp2_with fail
              go_quiet (fail)
              have HBQ := Lib.hid (below_drewN hbr.out nq)
              have HVQ := Lib.hid (owns_below hV.out (below_drewN (Below.refl _ wr) nq))
              have p0' : (wr.drewN nq).cell? ⟨bb, boff + k * 3, none⟩ = some (.bool x0) := p0
              have p1' : (wr.drewN nq).cell? ⟨bb, boff + k * 3 + 1, none⟩ = some (.bool x1) := p1
              have p2' : (wr.drewN nq).cell? ⟨bb, boff + k * 3 + 2, none⟩ = some (.bool x2) := p2
              clear p0 p1 p2 q0 q1 q2 k0 k1 k2 hV hbr
              go_wp2_with fail
              generalize wr.drewN nq = w10 at HBQ HVQ p0' p1' p2' ⊢
              clear p0' p1' p2'
              go_loopw [11, 89] (fun mv iv W => ∃ j mm : Nat, j ≤ 3 ∧ mm ≤ j ∧ iv = .int .i64 j ∧ mv = .int .i64 mm ∧ Hid (mm = manyB x0 x1 x2 j) ∧ Hid (Below w10.heap.size w10 W)) (fun _ iv _ => 3 - (intOf iv).toNat)
              case atStart => exact ⟨0, 0, by omega, by omega, rfl, rfl, Lib.hid rfl, Lib.hid (Below.refl _ _)⟩
              case round =>
                obtain ⟨j, mm, hj, hmj, rfl, rfl, HMM, hbj⟩ := hrel
                by_cases hj3 : j < 3
                · have hjj : j = 0 ∨ j = 1 ∨ j = 2 := by omega
                  rcases hjj with rfl | rfl | rfl
                  · have ix : ∀ W, (Instr.index 42 (.agg #[.bool x0, .bool x1, .bool x2]) (.int .i64 0)).run Try.prog W = .ok (.bool x0) W := fun W => run_index_tri x0 x1 x2 (j := 0) (by omega) W
                    cases hx : x0 with
                    | true =>
                      rw [hx] at ix
                      have HN2 : Hid (mm + 1 = manyB x0 x1 x2 1) := Lib.hid (by rw [HMM.out]; simp only [manyB, hx]; rfl)
                      rw [hx] at HN2
                      clear hx
                      go_wp2_with fail
                      go_roundw
                      case rel => exact ⟨1, mm + 1, by omega, by omega, by rfl, by go_num, HN2, hbj⟩
                      case measure => simp [intOf]
                    | false =>
                      rw [hx] at ix
                      have HN2 : Hid (mm = manyB x0 x1 x2 1) := Lib.hid (by rw [HMM.out]; simp only [manyB, hx]; rfl)
                      rw [hx] at HN2
                      clear hx
                      go_wp2_with fail
                      go_roundw
                      case rel => exact ⟨1, mm, by omega, by omega, by rfl, by rfl, HN2, hbj⟩
                      case measure => simp [intOf]
                  · have ix : ∀ W, (Instr.index 42 (.agg #[.bool x0, .bool x1, .bool x2]) (.int .i64 1)).run Try.prog W = .ok (.bool x1) W := fun W => run_index_tri x0 x1 x2 (j := 1) (by omega) W
                    cases hx : x1 with
                    | true =>
                      rw [hx] at ix
                      have HN2 : Hid (mm + 1 = manyB x0 x1 x2 2) := Lib.hid (by rw [HMM.out]; simp only [manyB, hx]; rfl)
                      rw [hx] at HN2
                      clear hx
                      go_wp2_with fail
                      go_roundw
                      case rel => exact ⟨2, mm + 1, by omega, by omega, by rfl, by go_num, HN2, hbj⟩
                      case measure => simp [intOf]
                    | false =>
                      rw [hx] at ix
                      have HN2 : Hid (mm = manyB x0 x1 x2 2) := Lib.hid (by rw [HMM.out]; simp only [manyB, hx]; rfl)
                      rw [hx] at HN2
                      clear hx
                      go_wp2_with fail
                      go_roundw
                      case rel => exact ⟨2, mm, by omega, by omega, by rfl, by rfl, HN2, hbj⟩
                      case measure => simp [intOf]
                  · have ix : ∀ W, (Instr.index 42 (.agg #[.bool x0, .bool x1, .bool x2]) (.int .i64 2)).run Try.prog W = .ok (.bool x2) W := fun W => run_index_tri x0 x1 x2 (j := 2) (by omega) W
                    cases hx : x2 with
                    | true =>
                      rw [hx] at ix
                      have HN2 : Hid (mm + 1 = manyB x0 x1 x2 3) := Lib.hid (by rw [HMM.out]; simp only [manyB, hx]; rfl)
                      rw [hx] at HN2
                      clear hx
                      go_wp2_with fail
                      go_roundw
                      case rel => exact ⟨3, mm + 1, by omega, by omega, by rfl, by go_num, HN2, hbj⟩
                      case measure => simp [intOf]
                    | false =>
                      rw [hx] at ix
                      have HN2 : Hid (mm = manyB x0 x1 x2 3) := Lib.hid (by rw [HMM.out]; simp only [manyB, hx]; rfl)
                      rw [hx] at HN2
                      clear hx
                      go_wp2_with fail
                      go_roundw
                      case rel => exact ⟨3, mm, by omega, by omega, by rfl, by rfl, HN2, hbj⟩
                      case measure => simp [intOf]
                · obtain rfl : j = 3 := by omega
                  have HVJ := Lib.hid (owns_below HVQ.out hbj.out)
                  have HBJ := Lib.hid (HBQ.out.trans (hbj.out.mono HBQ.out.size))
                  have hmd := many_doubt x0 x1 x2
                  clear HVQ HBQ hbj
                  cases hdb : doubtB (x0, x1, x2) with
                  | true =>
                    have dm : decide ((1 : Int) < (mm : Int)) = true := by rw [hdb, ← HMM.out] at hmd; simp at hmd ⊢; omega
                    have HE : Hid (ints ((wantTo o (k + 1)).map Int.ofNat) = ints ((wantTo o k).map Int.ofNat) ++ [.int .i64 k] ∧ (wantTo o (k + 1)).length = (wantTo o k).length + 1) := Lib.hid (by
                      rw [HWS.out, if_pos hdb]
                      unfold ints
                      rw [List.map_append, List.map_append]
                      exact ⟨rfl, by simp⟩)
                    have hln := wantTo_len o k
                    obtain ⟨l0, hl0⟩ : ∃ l0, l0 = (wantTo o k).length := ⟨_, rfl⟩
                    have hl100 : l0 ≤ 100 := by omega
                    obtain ⟨va, vc, rfl, -⟩ := RS.of_owns HVJ.out
                    rw [← hl0] at HVJ HE ⊢
                    have HSZ := Lib.hid HBJ.out.size
                    clear hdb hln hl0 hmd HWS
                    go_wp2_with (at_builtin; refine wpList_append_own _ rfl _ _ 23 rfl w8.heap.size 3 i0 (.int .i64 0) 1 8 Try.underlying23 HI.out.1 HI.out.2.1 HI.out.2.2.1 HI.out.2.2.2 rfl (by decide) _ _ _ rfl (HVJ.out.alloc _) ⟨wr.heap.size, 0, none⟩ 1 1 [.int .i64 k] rfl rfl (cell_one_new _ _ _) (by simp [Value.oneCell']) (by unfold maxLen; omega) (by omega) (by have := HSZ.out; simp; omega) ?_; intro v' w13 hown3 hgrow _)
                    have HB13 : Hid (Below w8.heap.size w8 w13) := Lib.hid ((HBJ.out.alloc HSZ.out _).grown hgrow (by have := HSZ.out; simp; omega) (fun j e => (HVJ.out.lt j e).1))
                    have HV13 : Hid (w13.ownsRow w8.heap.size 3 1 v' (wantTo o (k + 1)).length (ints ((wantTo o (k + 1)).map Int.ofNat))) := Lib.hid (by rw [HE.out.1, HE.out.2]; exact hown3)
                    clear hown3 hgrow HVJ HBJ
                    go_wp2
                    go_roundw
                    case rel => exact ⟨k + 1, by omega, by go_num, HV13, HB13⟩
                    case measure => simp [intOf]; omega
                  | false =>
                    have dm : decide ((1 : Int) < (mm : Int)) = false := by rw [hdb, ← HMM.out] at hmd; simp at hmd ⊢; omega
                    have h9 := HVJ.out
                    rw [show wantTo o k = wantTo o (k + 1) from (HWS.out.trans (if_neg (by rw [hdb]; decide))).symm] at h9
                    have HV9 := Lib.hid h9
                    clear h9 hdb hmd HWS
                    go_wp2
                    go_roundw
                    case rel => exact ⟨k + 1, by omega, by go_num, HV9, HBJ⟩
                    case measure => simp [intOf]; omega
            · obtain rfl : k = n := by omega
              have HG9 := Lib.hid (HG8.out.grow hbr.out)
              have HV9 := Lib.hid (RS.of_owns hV.out)
              clear hbr hV HG8 HOB
              obtain ⟨va, vc, rfl, -⟩ := HV9.out
              obtain ⟨o0, o1, o2⟩ := HG9.out.o
              go_wp2_with fail
              refine (Doubt_any (B := wr.heap.size) (Nat.le_refl _) HG9.out.h1 HG9.out.s1).mono ?_
              rintro e w14 ⟨vd, ed, LD, rfl, hb, hda, hod⟩
              obtain ⟨rfl, hld⟩ := doubt_agree HFIT.out hda HRS.out
              have hld : LD = wantTo o k := hld
              have HG10 := Lib.hid (HG9.out.grow hb)
              have HVD := Lib.hid (And.intro (RS.of_owns hod) (rs_grow HV9.out hb))
              rw [hld] at HVD
              have hwl := wantTo_len o k
              have HWL := Lib.hid hwl
              have hne : (ed != ed) = false := by simp
              clear hb hda hod hld hwl HG9 HV9 o0 o1 o2
              go_wp2_with fail
              refine (equal_ints (l1 := (wantTo o k).map Int.ofNat) (l2 := (wantTo o k).map Int.ofNat) (by rw [List.length_map]; have := HWL.out; omega) (by rw [List.length_map]; exact HVD.out.1) (by rw [List.length_map]; exact HVD.out.2)).mono ?_
              rintro e w15 ⟨rfl, hb⟩
              have HG11 := Lib.hid (HG10.out.grow hb)
              have et : decide ((wantTo o k).map Int.ofNat = (wantTo o k).map Int.ofNat) = true := by simp
              rw [et]
              clear et hb HG10 HVD hne
              obtain ⟨o0, o1, o2⟩ := HG11.out.o
              go_wp2_with fail
              refine (Saddles_any (B := w15.heap.size) (Nat.le_refl _) HG11.out.h1 HG11.out.s1).mono ?_
              rintro e w16 ⟨vs, x, y, es, LS, rfl, hb, hsa, hos, hn1, hn2⟩
              have HG12 := Lib.hid (HG11.out.grow hb)
              have HSA := Lib.hid (And.intro hsa (And.intro hn1 hn2))
              have HOS := Lib.hid (RS.of_owns hos)
              clear hb hsa hos hn1 hn2 HG11 o0 o1 o2
              obtain ⟨r0, r1, r2⟩ := HG12.out.r
              go_wp2_with fail
              refine (rsaddles_all (B := w16.heap.size) (Nat.le_refl _) HG12.out.h2 HG12.out.s2).mono ?_
              rintro e w17 ⟨vt, et', LT, rfl, hot, hrt, hb⟩
              obtain ⟨rfl, rfl⟩ := saddles_agree HFIT.out HSA.out.1 HSA.out.2.1 HSA.out.2.2 hrt
              have hlen : LS.length ≤ 1000 := by
                obtain ⟨x', y', -, k2, k3⟩ := hrt
                by_cases hes : es = 0
                · obtain ⟨o', rfl, -⟩ := k3 hes
                  have := sadNames_len o' ss.length
                  have := HL.out
                  omega
                · rw [k2 hes]; simp
              have HG13 := Lib.hid (HG12.out.grow hb)
              have HVS := Lib.hid (And.intro (rs_grow HOS.out hb) (RS.of_owns hot))
              have HLL := Lib.hid hlen
              have hee : (es == es) = true := by simp
              clear hb hot hrt hlen HG12 HOS HSA r0 r1 r2
              go_wp2_with fail
              refine (equal_ints (l1 := LS.map Int.ofNat) (l2 := LS.map Int.ofNat) (by rw [List.length_map]; exact HLL.out) (by rw [List.length_map]; exact HVS.out.1) (by rw [List.length_map]; exact HVS.out.2)).mono ?_
              rintro e w18 ⟨rfl, hb⟩
              have HG14 := Lib.hid (HG13.out.grow hb)
              have et : decide (LS.map Int.ofNat = LS.map Int.ofNat) = true := by simp
              rw [et]
              clear et hb HG13 HVS hee
              obtain ⟨o0, o1, o2⟩ := HG14.out.o
              obtain ⟨g0, g1, g2⟩ := HG14.out.g
              go_wp2_with fail
              clear o0 o1 o2 g0 g1 g2
              refine (same_any (B := w18.heap.size) (B2 := B) (Nat.le_refl _) (by have h1 := HB.out; have h2 := HG14.out.b.size; omega) (by have := HL.out; omega) (by have := HL.out; omega) HG14.out.h1 HG14.out.s1 (HHS.out.1.below (HG14.out.b.mono HB.out)) (HHS.out.2.below (HG14.out.b.mono HB.out))).mono ?_
              rintro e w19 ⟨rfl, hb⟩
              have HB19 := Lib.hid (HG14.out.b.trans (hb.mono HG14.out.b.size))
              clear hb HG14
              go_wp2_with fail
              refine (awake_any _).mono ?_
              rintro e wz ⟨rfl, hbz⟩
              have HBZ := Lib.hid ((HB19.out).trans (hbz.mono (HB19.out).size))
              clear hbz
              go_wp2
              go_ret
              exact ⟨rfl, HBZ.out⟩
    · have he1 : (openErr wd hs ss == 0) = false := by rw [beq_eq_false_iff_ne]; exact he
      have HFIT : Hid (Fit wd hs ss) := Lib.hid (fun h => absurd h he)
      clear he
      obtain ⟨g0, g1, g2⟩ := HG4.out.g
      go_wp2_with fail
      refine (lclone_any (B := B) (wd := wd) (by have h1 := HB.out; have h2 := HG4.out.b.size; omega) (HHS.out.1.below (HG4.out.b.mono HB.out)) (HHS.out.2.below (HG4.out.b.mono HB.out)) (by have := HL.out; omega) (by have := HL.out; omega)).mono ?_
      rintro e w5 ⟨h1v, s1v, rfl, o1, o2, hb⟩
      obtain ⟨a3, c3, rfl, -⟩ := RS.of_owns o1
      obtain ⟨a4, c4, rfl, -⟩ := RS.of_owns o2
      have hb2 : Below w5.heap.size w5 (w5.alloc (.cells #[.int .i64 wd, .slice a3 hs.length c3, .slice a4 ss.length c4] 25)) := (Below.refl _ _).alloc (Nat.le_refl _) _
      have HG6 : Hid (GS w wd (.slice ha hs.length hcap) (.slice sa ss.length scap) hs ss [] w5.heap.size q (.slice a3 hs.length c3) (.slice a4 ss.length c4) (.slice a1 hs.length c1) (.slice a2 ss.length c2) (.slice none 0 0) (w5.alloc (.cells #[.int .i64 wd, .slice a3 hs.length c3, .slice a4 ss.length c4] 25))) := Lib.hid (by
        have H := (HG4.out.grow hb).grow hb2
        exact ⟨H.b, H.g, ⟨cell_new w5 _ _ 0 (by simp), cell_new w5 _ _ 1 (by simp), cell_new w5 _ _ 2 (by simp)⟩, H.r, rs_grow (RS.of_owns o1) hb2, rs_grow (RS.of_owns o2) hb2, H.h2, H.s2, RS.nil _ _⟩)
      clear hb hb2 o1 o2 g0 g1 g2 HG4
      obtain ⟨o0, o1, o2⟩ := HG6.out.o
      go_wp2_with fail
      obtain ⟨p, hp⟩ : ∃ p, p = w5.heap.size := ⟨_, rfl⟩
      rw [← hp] at HG6 o0 o1 o2 ⊢
      clear hp
      generalize (w5.alloc (.cells #[.int .i64 wd, .slice a3 hs.length c3, .slice a4 ss.length c4] 25)) = w6 at HG6 o0 o1 o2 ⊢
      refine (Sides_any (B := w6.heap.size) (Nat.le_refl _) HG6.out.h1 HG6.out.s1).mono ?_
      rintro e w7 ⟨va, er, l, rfl, hb, hsa, hoa⟩
      have HG7 := Lib.hid (HG6.out.grow hb)
      have HSA := Lib.hid hsa
      have HOA := Lib.hid (RS.of_owns hoa)
      obtain ⟨aa, ac, rfl, -⟩ := RS.of_owns hoa
      clear hb hsa hoa HG6 o0 o1 o2
      obtain ⟨r0, r1, r2⟩ := HG7.out.r
      go_wp2_with fail
      refine (rsides_all (B := w7.heap.size) (Nat.le_refl _) HG7.out.h2 HG7.out.s2).mono ?_
      rintro e w8 ⟨vb, er', n, o, rfl, hob, hrs, hb⟩
      obtain ⟨rfl, hln, hn100, htri⟩ := sides_agree HFIT.out HSA.out hrs
      have HG8 := Lib.hid (HG7.out.grow hb)
      have HRS := Lib.hid hrs
      have HTRI := Lib.hid htri
      have HOB := Lib.hid (And.intro (rs_grow HOA.out hb) (RS.of_owns hob))
      obtain ⟨ba, bc, rfl, -⟩ := RS.of_owns hob
      have HLN := Lib.hid hln
      rw [hln] at HOB ⊢
      have hne : (er != er) = false := by simp
      have hne2 : ((n : Int) != (n : Int)) = false := by simp
      clear hb hrs hob htri HG7 HOA HSA r0 r1 r2 hln
      go_wp2_with fail
      obtain ⟨i0, hi, hz0, hz1, hz2⟩ := info_parts Try.infoInt
      have HI := Lib.hid (And.intro hi (And.intro hz0 (And.intro hz1 hz2)))
      clear hi hz0 hz1 hz2 hne hne2
      go_loopw [9, 61] (fun v i wr => ∃ k : Nat, k ≤ n ∧ i = .int .i64 k ∧ Hid (wr.ownsRow w8.heap.size 3 1 v (wantTo o k).length (ints ((wantTo o k).map Int.ofNat))) ∧ Hid (Below w8.heap.size w8 wr)) (fun _ i _ => n - (intOf i).toNat)
      case atStart => exact ⟨0, Nat.zero_le _, rfl, Lib.hid (World.ownsRow_nil _ _ _ _), Lib.hid (Below.refl _ _)⟩
      case round =>
        obtain ⟨k, hk, rfl, hV, hbr⟩ := hrel
        by_cases hlt : k < n
        · have hkb : (k : Int) < 1000 := by omega
          obtain ⟨aa', ac', e1, g1⟩ := HOB.out.1
          obtain ⟨ba', bc', e2, g2⟩ := HOB.out.2
          obtain ⟨ab, aoff, h1, hab, hac⟩ := g1 (fun e => by have := sideCells_length l; rw [e, HLN.out] at this; simp at this; omega)
          obtain ⟨bb, boff, h2, hbb, hbc⟩ := g2 (fun e => by have := bl_length (n * 3) o; rw [e] at this; simp at this; omega)
          have e1' : aa = some ⟨ab, aoff, none⟩ := by rw [← h1]; injection e1
          have e2' : ba = some ⟨bb, boff, none⟩ := by rw [← h2]; injection e2
          subst e1' e2'
          obtain ⟨x0, hx0⟩ : ∃ x, x = o (k * 3) := ⟨_, rfl⟩
          obtain ⟨x1, hx1⟩ : ∃ x, x = o (k * 3 + 1) := ⟨_, rfl⟩
          obtain ⟨x2, hx2⟩ : ∃ x, x = o (k * 3 + 2) := ⟨_, rfl⟩
          have hsc := sideCells_at l k (by have := HLN.out; omega)
          rw [HTRI.out k hlt, ← hx0, ← hx1, ← hx2] at hsc
          have q0 : wr.cell? ⟨ab, aoff + k * 3, none⟩ = some (.bool x0) := cell_on hbr.out (hac _ _ hsc.1)
          have q1 : wr.cell? ⟨ab, aoff + k * 3 + 1, none⟩ = some (.bool x1) := cell_on hbr.out (hac _ _ hsc.2.1)
          have q2 : wr.cell? ⟨ab, aoff + k * 3 + 2, none⟩ = some (.bool x2) := cell_on hbr.out (hac _ _ hsc.2.2)
          have p0 : wr.cell? ⟨bb, boff + k * 3, none⟩ = some (.bool x0) := cell_on hbr.out (hbc (k * 3) _ (by rw [bl_at _ (by omega), hx0]))
          have p1 : wr.cell? ⟨bb, boff + k * 3 + 1, none⟩ = some (.bool x1) := cell_on hbr.out (hbc (k * 3 + 1) _ (by rw [bl_at _ (by omega), hx1]))
          have p2 : wr.cell? ⟨bb, boff + k * 3 + 2, none⟩ = some (.bool x2) := cell_on hbr.out (hbc (k * 3 + 2) _ (by rw [bl_at _ (by omega), hx2]))
          have HWS : Hid (wantTo o (k + 1) = if doubtB (x0, x1, x2) = true then wantTo o k ++ [k] else wantTo o k) := Lib.hid (by rw [wantTo_succ, ← hx0, ← hx1, ← hx2])
          have k0 : (x0 == x0) = true := by cases x0 <;> rfl
          have k1 : (x1 == x1) = true := by cases x1 <;> rfl
          have k2 : (x2 == x2) = true := by cases x2 <;> rfl
          clear hx0 hx1 hx2 hsc hac hbc g1 g2 h1 h2 e1 e2
          go_wp2_with fail
          go_quiet (fail)
          have HBQ := Lib.hid (below_drewN hbr.out nq)
          have HVQ := Lib.hid (owns_below hV.out (below_drewN (Below.refl _ wr) nq))
          have p0' : (wr.drewN nq).cell? ⟨bb, boff + k * 3, none⟩ = some (.bool x0) := p0
          have p1' : (wr.drewN nq).cell? ⟨bb, boff + k * 3 + 1, none⟩ = some (.bool x1) := p1
          have p2' : (wr.drewN nq).cell? ⟨bb, boff + k * 3 + 2, none⟩ = some (.bool x2) := p2
          clear p0 p1 p2 q0 q1 q2 k0 k1 k2 hV hbr
          go_wp2_with fail
          generalize wr.drewN nq = w10 at HBQ HVQ p0' p1' p2' ⊢
          clear p0' p1' p2'
          go_loopw [11, 89] (fun mv iv W => ∃ j mm : Nat, j ≤ 3 ∧ mm ≤ j ∧ iv = .int .i64 j ∧ mv = .int .i64 mm ∧ Hid (mm = manyB x0 x1 x2 j) ∧ Hid (Below w10.heap.size w10 W)) (fun _ iv _ => 3 - (intOf iv).toNat)
          case atStart => exact ⟨0, 0, by omega, by omega, rfl, rfl, Lib.hid rfl, Lib.hid (Below.refl _ _)⟩
          case round =>
            obtain ⟨j, mm, hj, hmj, rfl, rfl, HMM, hbj⟩ := hrel
            by_cases hj3 : j < 3
            · have hjj : j = 0 ∨ j = 1 ∨ j = 2 := by omega
              rcases hjj with rfl | rfl | rfl
              · have ix : ∀ W, (Instr.index 42 (.agg #[.bool x0, .bool x1, .bool x2]) (.int .i64 0)).run Try.prog W = .ok (.bool x0) W := fun W => run_index_tri x0 x1 x2 (j := 0) (by omega) W
                cases hx : x0 with
                | true =>
                  rw [hx] at ix
                  have HN2 : Hid (mm + 1 = manyB x0 x1 x2 1) := Lib.hid (by rw [HMM.out]; simp only [manyB, hx]; rfl)
                  rw [hx] at HN2
                  clear hx
                  go_wp2_with fail
                  go_roundw
                  case rel => exact ⟨1, mm + 1, by omega, by omega, by rfl, by go_num, HN2, hbj⟩
                  case measure => simp [intOf]
                | false =>
                  rw [hx] at ix
                  have HN2 : Hid (mm = manyB x0 x1 x2 1) := Lib.hid (by rw [HMM.out]; simp only [manyB, hx]; rfl)
                  rw [hx] at HN2
                  clear hx
                  go_wp2_with fail
                  go_roundw
                  case rel => exact ⟨1, mm, by omega, by omega, by rfl, by rfl, HN2, hbj⟩
                  case measure => simp [intOf]
              · have ix : ∀ W, (Instr.index 42 (.agg #[.bool x0, .bool x1, .bool x2]) (.int .i64 1)).run Try.prog W = .ok (.bool x1) W := fun W => run_index_tri x0 x1 x2 (j := 1) (by omega) W
                cases hx : x1 with
                | true =>
                  rw [hx] at ix
                  have HN2 : Hid (mm + 1 = manyB x0 x1 x2 2) := Lib.hid (by rw [HMM.out]; simp only [manyB, hx]; rfl)
                  rw [hx] at HN2
                  clear hx
                  go_wp2_with fail
                  go_roundw
                  case rel => exact ⟨2, mm + 1, by omega, by omega, by rfl, by go_num, HN2, hbj⟩
                  case measure => simp [intOf]
                | false =>
                  rw [hx] at ix
                  have HN2 : Hid (mm = manyB x0 x1 x2 2) := Lib.hid (by rw [HMM.out]; simp only [manyB, hx]; rfl)
                  rw [hx] at HN2
                  clear hx
                  go_wp2_with fail
                  go_roundw
                  case rel => exact ⟨2, mm, by omega, by omega, by rfl, by rfl, HN2, hbj⟩
                  case measure => simp [intOf]
              · have ix : ∀ W, (Instr.index 42 (.agg #[.bool x0, .bool x1, .bool x2]) (.int .i64 2)).run Try.prog W = .ok (.bool x2) W := fun W => run_index_tri x0 x1 x2 (j := 2) (by omega) W
                cases hx : x2 with
                | true =>
                  rw [hx] at ix
                  have HN2 : Hid (mm + 1 = manyB x0 x1 x2 3) := Lib.hid (by rw [HMM.out]; simp only [manyB, hx]; rfl)
                  rw [hx] at HN2
                  clear hx
                  go_wp2_with fail
                  go_roundw
                  case rel => exact ⟨3, mm + 1, by omega, by omega, by rfl, by go_num, HN2, hbj⟩
                  case measure => simp [intOf]
                | false =>
                  rw [hx] at ix
                  have HN2 : Hid (mm = manyB x0 x1 x2 3) := Lib.hid (by rw [HMM.out]; simp only [manyB, hx]; rfl)
                  rw [hx] at HN2
                  clear hx
                  go_wp2_with fail
                  go_roundw
                  case rel => exact ⟨3, mm, by omega, by omega, by rfl, by rfl, HN2, hbj⟩
                  case measure => simp [intOf]
            · obtain rfl : j = 3 := by omega
              have HVJ := Lib.hid (owns_below HVQ.out hbj.out)
              have HBJ := Lib.hid (HBQ.out.trans (hbj.out.mono HBQ.out.size))
              have hmd := many_doubt x0 x1 x2
              clear HVQ HBQ hbj
              cases hdb : doubtB (x0, x1, x2) with
              | true =>
                have dm : decide ((1 : Int) < (mm : Int)) = true := by rw [hdb, ← HMM.out] at hmd; simp at hmd ⊢; omega
                have HE : Hid (ints ((wantTo o (k + 1)).map Int.ofNat) = ints ((wantTo o k).map Int.ofNat) ++ [.int .i64 k] ∧ (wantTo o (k + 1)).length = (wantTo o k).length + 1) := Lib.hid (by
                  rw [HWS.out, if_pos hdb]
                  unfold ints
                  rw [List.map_append, List.map_append]
                  exact ⟨rfl, by simp⟩)
                have hln := wantTo_len o k
                obtain ⟨l0, hl0⟩ : ∃ l0, l0 = (wantTo o k).length := ⟨_, rfl⟩
                have hl100 : l0 ≤ 100 := by omega
                obtain ⟨va, vc, rfl, -⟩ := RS.of_owns HVJ.out
                rw [← hl0] at HVJ HE ⊢
                have HSZ := Lib.hid HBJ.out.size
                clear hdb hln hl0 hmd HWS
                go_wp2_with (at_builtin; refine wpList_append_own _ rfl _ _ 23 rfl w8.heap.size 3 i0 (.int .i64 0) 1 8 Try.underlying23 HI.out.1 HI.out.2.1 HI.out.2.2.1 HI.out.2.2.2 rfl (by decide) _ _ _ rfl (HVJ.out.alloc _) ⟨wr.heap.size, 0, none⟩ 1 1 [.int .i64 k] rfl rfl (cell_one_new _ _ _) (by simp [Value.oneCell']) (by unfold maxLen; omega) (by omega) (by have := HSZ.out; simp; omega) ?_; intro v' w13 hown3 hgrow _)
                have HB13 : Hid (Below w8.heap.size w8 w13) := Lib.hid ((HBJ.out.alloc HSZ.out _).grown hgrow (by have := HSZ.out; simp; omega) (fun j e => (HVJ.out.lt j e).1))
                have HV13 : Hid (w13.ownsRow w8.heap.size 3 1 v' (wantTo o (k + 1)).length (ints ((wantTo o (k + 1)).map Int.ofNat))) := Lib.hid (by rw [HE.out.1, HE.out.2]; exact hown3)
                clear hown3 hgrow HVJ HBJ
                go_wp2
                go_roundw
                case rel => exact ⟨k + 1, by omega, by go_num, HV13, HB13⟩
                case measure => simp [intOf]; omega
              | false =>
                have dm : decide ((1 : Int) < (mm : Int)) = false := by rw [hdb, ← HMM.out] at hmd; simp at hmd ⊢; omega
                have h9 := HVJ.out
                rw [show wantTo o k = wantTo o (k + 1) from (HWS.out.trans (if_neg (by rw [hdb]; decide))).symm] at h9
                have HV9 := Lib.hid h9
                clear h9 hdb hmd HWS
                go_wp2
                go_roundw
                case rel => exact ⟨k + 1, by omega, by go_num, HV9, HBJ⟩
                case measure => simp [intOf]; omega
        · obtain rfl : k = n := by omega
          have HG9 := Lib.hid (HG8.out.grow hbr.out)
          have HV9 := Lib.hid (RS.of_owns hV.out)
          clear hbr hV HG8 HOB
          obtain ⟨va, vc, rfl, -⟩ := HV9.out
          obtain ⟨o0, o1, o2⟩ := HG9.out.o
          go_wp2_with fail
          refine (Doubt_any (B := wr.heap.size) (Nat.le_refl _) HG9.out.h1 HG9.out.s1).mono ?_
          rintro e w14 ⟨vd, ed, LD, rfl, hb, hda, hod⟩
          obtain ⟨rfl, hld⟩ := doubt_agree HFIT.out hda HRS.out
          have hld : LD = wantTo o k := hld
          have HG10 := Lib.hid (HG9.out.grow hb)
          have HVD := Lib.hid (And.intro (RS.of_owns hod) (rs_grow HV9.out hb))
          rw [hld] at HVD
          have hwl := wantTo_len o k
          have HWL := Lib.hid hwl
          have hne : (ed != ed) = false := by simp
          clear hb hda hod hld hwl HG9 HV9 o0 o1 o2
          go_wp2_with fail
          refine (equal_ints (l1 := (wantTo o k).map Int.ofNat) (l2 := (wantTo o k).map Int.ofNat) (by rw [List.length_map]; have := HWL.out; omega) (by rw [List.length_map]; exact HVD.out.1) (by rw [List.length_map]; exact HVD.out.2)).mono ?_
          rintro e w15 ⟨rfl, hb⟩
          have HG11 := Lib.hid (HG10.out.grow hb)
          have et : decide ((wantTo o k).map Int.ofNat = (wantTo o k).map Int.ofNat) = true := by simp
          rw [et]
          clear et hb HG10 HVD hne
          obtain ⟨o0, o1, o2⟩ := HG11.out.o
          go_wp2_with fail
          refine (Saddles_any (B := w15.heap.size) (Nat.le_refl _) HG11.out.h1 HG11.out.s1).mono ?_
          rintro e w16 ⟨vs, x, y, es, LS, rfl, hb, hsa, hos, hn1, hn2⟩
          have HG12 := Lib.hid (HG11.out.grow hb)
          have HSA := Lib.hid (And.intro hsa (And.intro hn1 hn2))
          have HOS := Lib.hid (RS.of_owns hos)
          clear hb hsa hos hn1 hn2 HG11 o0 o1 o2
          obtain ⟨r0, r1, r2⟩ := HG12.out.r
          go_wp2_with fail
          refine (rsaddles_all (B := w16.heap.size) (Nat.le_refl _) HG12.out.h2 HG12.out.s2).mono ?_
          rintro e w17 ⟨vt, et', LT, rfl, hot, hrt, hb⟩
          obtain ⟨rfl, rfl⟩ := saddles_agree HFIT.out HSA.out.1 HSA.out.2.1 HSA.out.2.2 hrt
          have hlen : LS.length ≤ 1000 := by
            obtain ⟨x', y', -, k2, k3⟩ := hrt
            by_cases hes : es = 0
            · obtain ⟨o', rfl, -⟩ := k3 hes
              have := sadNames_len o' ss.length
              have := HL.out
              omega
            · rw [k2 hes]; simp
          have HG13 := Lib.hid (HG12.out.grow hb)
          have HVS := Lib.hid (And.intro (rs_grow HOS.out hb) (RS.of_owns hot))
          have HLL := Lib.hid hlen
          have hee : (es == es) = true := by simp
          clear hb hot hrt hlen HG12 HOS HSA r0 r1 r2
          go_wp2_with fail
          refine (equal_ints (l1 := LS.map Int.ofNat) (l2 := LS.map Int.ofNat) (by rw [List.length_map]; exact HLL.out) (by rw [List.length_map]; exact HVS.out.1) (by rw [List.length_map]; exact HVS.out.2)).mono ?_
          rintro e w18 ⟨rfl, hb⟩
          have HG14 := Lib.hid (HG13.out.grow hb)
          have et : decide (LS.map Int.ofNat = LS.map Int.ofNat) = true := by simp
          rw [et]
          clear et hb HG13 HVS hee
          obtain ⟨o0, o1, o2⟩ := HG14.out.o
          obtain ⟨g0, g1, g2⟩ := HG14.out.g
          go_wp2_with fail
          clear o0 o1 o2 g0 g1 g2
          refine (same_any (B := w18.heap.size) (B2 := B) (Nat.le_refl _) (by have h1 := HB.out; have h2 := HG14.out.b.size; omega) (by have := HL.out; omega) (by have := HL.out; omega) HG14.out.h1 HG14.out.s1 (HHS.out.1.below (HG14.out.b.mono HB.out)) (HHS.out.2.below (HG14.out.b.mono HB.out))).mono ?_
          rintro e w19 ⟨rfl, hb⟩
          have HB19 := Lib.hid (HG14.out.b.trans (hb.mono HG14.out.b.size))
          clear hb HG14
          go_wp2_with fail
          refine (awake_any _).mono ?_
          rintro e wz ⟨rfl, hbz⟩
          have HBZ := Lib.hid ((HB19.out).trans (hbz.mono (HB19.out).size))
          clear hbz
          go_wp2
          go_ret
          exact ⟨rfl, HBZ.out⟩
end Go.Proofs.Ytdgibmgifgdpbaa
