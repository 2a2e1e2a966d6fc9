/-
  Parts of the proof, in the order in which they build: RefI, RefJ, RefK, LawD.
-/
import Derived.BigQuiet
import Derived.Test.YtdgibmgifgdpbaaG17
import Derived.Test.YtdgibmgifgdpbaaG9
import Derived.Test.YtdgibmgifgdpbaaG18
import Derived.Test.YtdgibmgifgdpbaaG15
import Derived.Test.YtdgibmgifgdpbaaG14
import Derived.Test.YtdgibmgifgdpbaaG12
set_option linter.unusedVariables false
set_option linter.unusedSimpArgs false
/-
  Cells that must be land, as the reference has it: the contract of land.
-/
namespace Go.Proofs.Ytdgibmgifgdpbaa
open Go.RowKit Go.Shelf
open Lim

theorem any_take_succ {xs : List Int} {p : Int → Bool} {k : Nat} (hk : k < xs.length) (h : (xs.take k).any p = false) (h1 : p xs[k] = false) : (xs.take (k + 1)).any p = false := by
  rw [List.take_succ_eq_append_getElem hk, List.any_append, h]
  simp [h1]
theorem landErr_bad {wd : Int} {hs : List (Int × Int)} {ss xs : List Int} {k : Nat} (he : openErr wd hs ss = 0) (hk : k < xs.length) (h1 : offLand hs ss xs[k] = true) : landErr wd hs ss xs = 2 := by
  unfold landErr
  rw [if_neg (by simp [he]), if_pos (List.any_eq_true.2 ⟨xs[k], List.getElem_mem hk, h1⟩)]
set_option maxRecDepth 20000 in
set_option maxHeartbeats 1000000 in
theorem rland_any {B : Nat} {wd : Int} {hv sv cv : Value} {hs : List (Int × Int)} {ss xs : List Int} {w : World} (hn : xs.length ≤ 1000) (hB : B ≤ w.heap.size) (hh : RS B w hv hs.length (spans hs)) (hss : RS B w sv ss.length (ints ss)) (hxs : RS B w cv xs.length (ints xs)) :
    Calls Try.prog 83 #[.agg #[.int .i64 wd, hv, sv], cv] w fun e w' => e = .returned (.int .i64 (landErr wd hs ss xs)) ∧ Below w.heap.size w w' := by
  have B1 : Below w.heap.size w (w.alloc (.cells #[.int .i64 wd, hv, sv] 28)) := (Below.refl _ w).alloc (Nat.le_refl _) _
  have CO := Lib.hid (rcheck_any (B := B) (wd := wd) (w := w.alloc (.cells #[.int .i64 wd, hv, sv] 28)) (by have := B1.size; omega) (hh.below (B1.mono hB)) (hss.below (B1.mono hB)))
  have HHS := Lib.hid (And.intro hh (And.intro hss hxs))
  have HB := Lib.hid (And.intro hB B1)
  obtain ⟨ha, hcap, rfl, -⟩ := hh
  obtain ⟨sa, scap, rfl, hsc⟩ := hss
  obtain ⟨ca, ccap, rfl, hcc⟩ := hxs
  have HC := Lib.hid (And.intro hsc hcc)
  clear hsc hcc B1 hB
  go_enter Try.func83, Try.ntmps83
  have z2 : (w.alloc (.cells #[.int .i64 wd, .slice ha hs.length hcap, .slice sa ss.length scap] 28)).cell? ⟨w.heap.size, 2, none⟩ = some (.slice sa ss.length scap) := by simp [go_sem]
  have HZ := Lib.hid z2
  clear z2
  go_wp2_with fail
  refine CO.out.mono ?_
  clear CO
  rintro e w1 ⟨rfl, hb⟩
  have r2 := cell_on hb HZ.out
  have HB1 := Lib.hid (HB.out.2.trans (hb.mono HB.out.2.size))
  clear hb HZ
  by_cases he : openErr wd hs ss = 0
  · have HE := Lib.hid he
    have HG := Lib.hid (openErr_ok he)
    have hlen : hs.length = ss.length := HG.out.hn
    have hl : ss.length ≤ 100 := HG.out.n1
    rw [he]
    clear he
    have HL := Lib.hid hlen
    clear hlen
    go_wp2_with fail
    go_loopw [6] (fun i wr => ∃ k : Nat, k ≤ xs.length ∧ i = .int .i64 k ∧ Hid ((xs.take k).any (offLand hs ss) = false) ∧ wr.cell? ⟨w.heap.size, 2, none⟩ = some (.slice sa ss.length scap) ∧ Below w.heap.size w wr) (fun i _ => xs.length - (intOf i).toNat)
    case atStart => exact ⟨0, Nat.zero_le _, rfl, Lib.hid rfl, r2, HB1.out⟩
    case round =>
      clear r2
      obtain ⟨k, hk, rfl, hP, r2, hbr⟩ := hrel
      have HBR := Lib.hid hbr
      by_cases hlt : k < xs.length
      · obtain ⟨cb, coff, rfl, hcb, hcell⟩ := HC.out.2 (ints_ne (by omega))
        obtain ⟨x, hx⟩ : ∃ x, x = xs[k] := ⟨_, rfl⟩
        have q0 : wr.cell? ⟨cb, coff + k, none⟩ = some (.int .i64 x) := by rw [hx]; exact cell_below hbr (hcell _ _ (ints_at xs k hlt)) (by have := HB.out.1; show cb < w.heap.size; omega)
        have HX := Lib.hid hx
        clear hx hcell hbr
        have case : (x < 0) ∨ (∃ c : Nat, x = c) := by
          by_cases h : x < 0
          · exact .inl h
          · exact .inr ⟨x.toNat, by omega⟩
        rcases case with hneg | ⟨c, rfl⟩
        · have hle : Hid (landErr wd hs ss xs = 2) := Lib.hid (landErr_bad HE.out hlt (by rw [← HX.out]; unfold offLand; rw [inB_false (.inl hneg)]; rfl))
          have c1 : decide (x < 0) = true := by simpa using hneg
          clear hneg
          go_wp2_with fail
          go_quiet (fail)
          go_wp2
          go_ret
          exact ⟨by rw [hle.out]; rfl, below_drewN HBR.out _⟩
        · have c1 : decide ((c : Int) < 0) = false := by simp
          by_cases hge : ss.length ≤ c
          · have hle : Hid (landErr wd hs ss xs = 2) := Lib.hid (landErr_bad HE.out hlt (by rw [← HX.out]; unfold offLand; rw [inB_false (.inr (by have := HL.out; omega))]; rfl))
            have c2 : decide ((ss.length : Int) ≤ (c : Int)) = true := by simpa using hge
            have c3 : decide (ss.length ≤ c) = true := by simpa using hge
            clear hge
            go_wp2_with fail
            go_quiet (fail)
            go_wp2
            go_ret
            exact ⟨by rw [hle.out]; rfl, below_drewN HBR.out _⟩
          · have c2 : decide ((ss.length : Int) ≤ (c : Int)) = false := by simpa using hge
            have c3 : decide (ss.length ≤ c) = false := by simpa using hge
            have hcl : c < ss.length := by omega
            obtain ⟨sb, soff, rfl, hsb, hcell⟩ := HC.out.1 (ints_ne (by omega))
            obtain ⟨z, hz⟩ : ∃ z, z = ss.getD c 0 := ⟨_, rfl⟩
            have q1 : wr.cell? ⟨sb, soff + c, none⟩ = some (.int .i64 z) := by rw [hz, List.getD_eq_getElem?_getD]; exact cell_below HBR.out (hcell _ _ (ints_at' _ _ hcl)) (by have := HB.out.1; show sb < w.heap.size; omega)
            have HO : Hid (offLand hs ss xs[k] = decide (z ≠ 0)) := Lib.hid (by
              rw [← HX.out]
              unfold offLand
              rw [inB_iff.2 ⟨by omega, by have := HL.out; omega⟩]
              rw [show ((c : Int)).toNat = c from by omega, hz]
              simp)
            clear hz hcell hge
            by_cases hz0 : z = 0
            · have c4 : (z != 0) = false := by simp [hz0]
              have HO' : Hid (offLand hs ss xs[k] = false) := Lib.hid (by rw [HO.out]; simp [hz0])
              clear hz0
              go_wp2_with fail
              go_quiet (fail)
              go_wp2
              go_roundw
              case rel => exact ⟨k + 1, by omega, by go_num, Lib.hid (any_take_succ hlt hP.out HO'.out), r2, below_drewN HBR.out _⟩
              case measure => simp [intOf]; omega
            · have c4 : (z != 0) = true := by simp [hz0]
              have hle : Hid (landErr wd hs ss xs = 2) := Lib.hid (landErr_bad HE.out hlt (by rw [HO.out]; simpa using hz0))
              clear hz0
              go_wp2_with fail
              go_quiet (fail)
              go_wp2
              go_ret
              exact ⟨by rw [hle.out]; rfl, below_drewN HBR.out _⟩
      · obtain rfl : k = xs.length := by omega
        have hle : Hid (landErr wd hs ss xs = 0) := Lib.hid (by
          unfold landErr
          rw [if_neg (by simp [HE.out]), if_neg (by have := hP.out; rw [List.take_length] at this; simp [this])])
        go_wp2
        go_ret
        exact ⟨by rw [hle.out]; rfl, HBR.out⟩
  · have he1 : (openErr wd hs ss != 0) = true := by rw [bne, show (openErr wd hs ss == 0) = false from by rw [beq_eq_false_iff_ne]; exact he]; rfl
    have hle : Hid (landErr wd hs ss xs = openErr wd hs ss) := Lib.hid (by rw [landErr, if_pos he])
    clear he
    go_wp2
    go_ret
    exact ⟨by rw [hle.out]; rfl, HB1.out⟩
end Go.Proofs.Ytdgibmgifgdpbaa
/-
  Crossings as the reference has them: the contract of Crosses.
-/
namespace Go.Proofs.Ytdgibmgifgdpbaa
open Go.RowKit Go.Shelf
open Lim

theorem bes_comm (m a b : Nat) : bes m a b = bes m b a := by
  unfold bes
  have e : ∀ x y : Int, (x - y) * (x - y) = (y - x) * (y - x) := fun x y => by rw [← Int.neg_mul_neg (x - y) (x - y), Int.neg_sub]
  rw [e (((a % m : Nat) : Int)), e (((a / m : Nat) : Int))]
theorem drewL {w w' : World} (h : Below w.drew.heap.size w.drew w') : Below w.heap.size w w' := (Below.refl _ w).drew.trans h
/-- land, as cells that are counted -/
theorem on_land {hs : List (Int × Int)} {ss xs : List Int} (hl : hs.length = ss.length) (h : ∀ x ∈ xs, offLand hs ss x = false) {k : Nat} (hk : k < xs.length) : ∃ c : Nat, xs.getD k 0 = c ∧ c < ss.length := by
  have h1 := h xs[k] (List.getElem_mem hk)
  unfold offLand at h1
  rw [Bool.or_eq_false_iff] at h1
  have h2 : inB xs[k] 0 ((hs.length : Int) - 1) = true := by
    cases e : inB xs[k] 0 ((hs.length : Int) - 1) with
    | true => rfl
    | false => rw [e] at h1; cases h1.1
  have h3 := inB_iff.1 h2
  refine ⟨xs[k].toNat, ?_, by omega⟩
  rw [List.getD_eq_getElem?_getD, List.getElem?_eq_getElem hk]
  show xs[k] = _
  omega
/-- memory while Crosses goes along a way -/
structure CrM (w : World) (m : Nat) (hv sv : Value) (z : Int × Int) (ps : Nat) (x y : Int) (W : World) : Prop where
  f0 : W.cell? ⟨w.heap.size, 0, none⟩ = some (.int .i64 m)
  f1 : W.cell? ⟨w.heap.size, 1, none⟩ = some hv
  f2 : W.cell? ⟨w.heap.size, 2, none⟩ = some sv
  z0 : W.cell? ⟨w.heap.size + 1, 0, none⟩ = some (.int .i64 z.1) ∧ W.cell? ⟨w.heap.size + 1, 1, none⟩ = some (.int .i64 z.2)
  y0 : W.frozen? ⟨w.heap.size + 1, 0, none⟩ = false ∧ W.frozen? ⟨w.heap.size + 1, 1, none⟩ = false
  s0 : W.cell? ⟨ps, 0, none⟩ = some (.int .i64 x) ∧ W.cell? ⟨ps, 1, none⟩ = some (.int .i64 y)
  g0 : W.frozen? ⟨ps, 0, none⟩ = false ∧ W.frozen? ⟨ps, 1, none⟩ = false
  lt : w.heap.size < ps
  be : Below w.heap.size w W
theorem CrM.below {w : World} {m : Nat} {hv sv : Value} {z : Int × Int} {ps : Nat} {x y : Int} {W W' : World} (H : CrM w m hv sv z ps x y W) (hb : Below W.heap.size W W') : CrM w m hv sv z ps x y W' :=
  ⟨cell_on hb H.f0, cell_on hb H.f1, cell_on hb H.f2, ⟨cell_on hb H.z0.1, cell_on hb H.z0.2⟩, ⟨frozen_on hb H.z0.1 H.y0.1, frozen_on hb H.z0.2 H.y0.2⟩, ⟨cell_on hb H.s0.1, cell_on hb H.s0.2⟩, ⟨frozen_on hb H.s0.1 H.g0.1, frozen_on hb H.s0.2 H.g0.2⟩, H.lt, H.be.trans (hb.mono H.be.size)⟩
theorem CrM.set0 {w : World} {m : Nat} {hv sv : Value} {z : Int × Int} {ps : Nat} {x y : Int} {W : World} (H : CrM w m hv sv z ps x y W) (H2 : w.heap.size + 1 ≠ ps) (v : Int) : CrM w m hv sv z ps v y (W.setCell ⟨ps, 0, none⟩ (.int .i64 v)) :=
  ⟨(setCell_far _ _ (Nat.ne_of_gt H.lt)).trans H.f0, (setCell_far _ _ (Nat.ne_of_gt H.lt)).trans H.f1, (setCell_far _ _ (Nat.ne_of_gt H.lt)).trans H.f2, ⟨(setCell_far _ _ H2.symm).trans H.z0.1, (setCell_far _ _ H2.symm).trans H.z0.2⟩,
   ⟨(World.frozen?_setCell ..).trans H.y0.1, (World.frozen?_setCell ..).trans H.y0.2⟩, ⟨World.cell?_setCell_same' _ _ _ (by rw [H.s0.1]; rfl), (setCell_off _ _ (by omega)).trans H.s0.2⟩,
   ⟨(World.frozen?_setCell ..).trans H.g0.1, (World.frozen?_setCell ..).trans H.g0.2⟩, H.lt, H.be.setCell (p := ⟨ps, 0, none⟩) (Nat.le_of_lt H.lt) _⟩
theorem CrM.set1 {w : World} {m : Nat} {hv sv : Value} {z : Int × Int} {ps : Nat} {x y : Int} {W : World} (H : CrM w m hv sv z ps x y W) (H2 : w.heap.size + 1 ≠ ps) (v : Int) : CrM w m hv sv z ps x v (W.setCell ⟨ps, 1, none⟩ (.int .i64 v)) :=
  ⟨(setCell_far _ _ (Nat.ne_of_gt H.lt)).trans H.f0, (setCell_far _ _ (Nat.ne_of_gt H.lt)).trans H.f1, (setCell_far _ _ (Nat.ne_of_gt H.lt)).trans H.f2, ⟨(setCell_far _ _ H2.symm).trans H.z0.1, (setCell_far _ _ H2.symm).trans H.z0.2⟩,
   ⟨(World.frozen?_setCell ..).trans H.y0.1, (World.frozen?_setCell ..).trans H.y0.2⟩, ⟨(setCell_off _ _ (by omega)).trans H.s0.1, World.cell?_setCell_same' _ _ _ (by rw [H.s0.2]; rfl)⟩,
   ⟨(World.frozen?_setCell ..).trans H.g0.1, (World.frozen?_setCell ..).trans H.g0.2⟩, H.lt, H.be.setCell (p := ⟨ps, 1, none⟩) (Nat.le_of_lt H.lt) _⟩

set_option maxRecDepth 20000 in
set_option maxHeartbeats 2000000 in
theorem rcrosses_bad {B : Nat} {wd : Int} {hv sv cv : Value} {hs : List (Int × Int)} {ss xs : List Int} {w : World} (hn : xs.length ≤ 1000) (hB : B ≤ w.heap.size) (hh : RS B w hv hs.length (spans hs)) (hss : RS B w sv ss.length (ints ss)) (hxs : RS B w cv xs.length (ints xs)) (he : landErr wd hs ss xs ≠ 0) :
    Calls Try.prog 46 #[.agg #[.int .i64 wd, hv, sv], cv] w fun e w' => ∃ x y er, e = .returned (.tuple #[.agg #[.int .i64 x, .int .i64 y], .int .i64 er]) ∧ Below w.heap.size w w' ∧ CrossAns wd hs ss xs x y er := by
  have B1 : Below w.heap.size w ((w.alloc (.cells #[.int .i64 wd, hv, sv] 28)).alloc (.cells #[.int .i64 0, .int .i64 0] 54)) := ((Below.refl _ w).alloc (Nat.le_refl _) _).alloc (by simp) _
  have CO := Lib.hid (rland_any (B := B) (wd := wd) (w := (w.alloc (.cells #[.int .i64 wd, hv, sv] 28)).alloc (.cells #[.int .i64 0, .int .i64 0] 54)) hn (by have := B1.size; omega) (hh.below (B1.mono hB)) (hss.below (B1.mono hB)) (hxs.below (B1.mono hB)))
  obtain ⟨ha, hcap, rfl, -⟩ := hh
  obtain ⟨sa, scap, rfl, -⟩ := hss
  obtain ⟨ca, ccap, rfl, -⟩ := hxs
  have s0 : ((w.alloc (.cells #[.int .i64 wd, .slice ha hs.length hcap, .slice sa ss.length scap] 28)).alloc (.cells #[.int .i64 0, .int .i64 0] 54)).cell? ⟨w.heap.size + 1, 0, none⟩ = some (.int .i64 0) := by simp [go_sem]
  have s1 : ((w.alloc (.cells #[.int .i64 wd, .slice ha hs.length hcap, .slice sa ss.length scap] 28)).alloc (.cells #[.int .i64 0, .int .i64 0] 54)).cell? ⟨w.heap.size + 1, 1, none⟩ = some (.int .i64 0) := by simp [go_sem]
  have y0 : ((w.alloc (.cells #[.int .i64 wd, .slice ha hs.length hcap, .slice sa ss.length scap] 28)).alloc (.cells #[.int .i64 0, .int .i64 0] 54)).frozen? ⟨w.heap.size + 1, 0, none⟩ = false := by simp [go_sem]
  have y1 : ((w.alloc (.cells #[.int .i64 wd, .slice ha hs.length hcap, .slice sa ss.length scap] 28)).alloc (.cells #[.int .i64 0, .int .i64 0] 54)).frozen? ⟨w.heap.size + 1, 1, none⟩ = false := by simp [go_sem]
  have HZ := Lib.hid (And.intro B1 (And.intro (And.intro s0 s1) (And.intro y0 y1)))
  clear B1 s0 s1 y0 y1
  go_enter Try.func46, Try.ntmps46
  have HE := Lib.hid he
  clear he
  go_wp2_with fail
  refine CO.out.mono ?_
  clear CO
  rintro e w1 ⟨rfl, hb⟩
  have he1 : (landErr wd hs ss xs != 0) = true := by rw [bne, show (landErr wd hs ss xs == 0) = false from by rw [beq_eq_false_iff_ne]; exact HE.out]; rfl
  have BR := HZ.out.1.trans (hb.mono HZ.out.1.size)
  have s0 := cell_on hb HZ.out.2.1.1
  have s1 := cell_on hb HZ.out.2.1.2
  have y0 := frozen_on hb HZ.out.2.1.1 HZ.out.2.2.1
  have y1 := frozen_on hb HZ.out.2.1.2 HZ.out.2.2.2
  clear hb HZ
  have HBR := Lib.hid BR
  clear BR
  go_wp2
  obtain ⟨u0, u1⟩ := span_set (.int .i64 0) (.int .i64 0) s0 s1
  refine bodyPost_ret (v := .tuple #[.agg #[.int .i64 0, .int .i64 0], .int .i64 (landErr wd hs ss xs)]) ?_ rfl ?_
  · exact results_ct (p := 4) (u := 5) (ty := 54) rfl _ _ (w.heap.size + 1) _ rfl (load_span u0 u1)
  · exact ⟨0, 0, _, rfl, (HBR.out.setCell (p := ⟨w.heap.size + 1, 0, none⟩) (Nat.le_succ _) _).setCell (p := ⟨w.heap.size + 1, 1, none⟩) (Nat.le_succ _) _, .inl ⟨HE.out, rfl, rfl, rfl⟩⟩

set_option maxRecDepth 20000 in
set_option maxHeartbeats 2000000 in
theorem rcrosses_none {B : Nat} {wd : Int} {hv sv cv : Value} {hs : List (Int × Int)} {ss : List Int} {w : World} (hB : B ≤ w.heap.size) (hh : RS B w hv hs.length (spans hs)) (hss : RS B w sv ss.length (ints ss)) (hxs : RS B w cv ([] : List Int).length (ints [])) (he : landErr wd hs ss [] = 0) :
    Calls Try.prog 46 #[.agg #[.int .i64 wd, hv, sv], cv] w fun e w' => ∃ x y er, e = .returned (.tuple #[.agg #[.int .i64 x, .int .i64 y], .int .i64 er]) ∧ Below w.heap.size w w' ∧ CrossAns wd hs ss [] x y er := by
  have B1 : Below w.heap.size w ((w.alloc (.cells #[.int .i64 wd, hv, sv] 28)).alloc (.cells #[.int .i64 0, .int .i64 0] 54)) := ((Below.refl _ w).alloc (Nat.le_refl _) _).alloc (by simp) _
  have CO := Lib.hid (rland_any (B := B) (wd := wd) (w := (w.alloc (.cells #[.int .i64 wd, hv, sv] 28)).alloc (.cells #[.int .i64 0, .int .i64 0] 54)) (xs := []) (by decide) (by have := B1.size; omega) (hh.below (B1.mono hB)) (hss.below (B1.mono hB)) (hxs.below (B1.mono hB)))
  obtain ⟨ha, hcap, rfl, -⟩ := hh
  obtain ⟨sa, scap, rfl, -⟩ := hss
  obtain ⟨ca, ccap, rfl, -⟩ := hxs
  have s0 : ((w.alloc (.cells #[.int .i64 wd, .slice ha hs.length hcap, .slice sa ss.length scap] 28)).alloc (.cells #[.int .i64 0, .int .i64 0] 54)).cell? ⟨w.heap.size + 1, 0, none⟩ = some (.int .i64 0) := by simp [go_sem]
  have s1 : ((w.alloc (.cells #[.int .i64 wd, .slice ha hs.length hcap, .slice sa ss.length scap] 28)).alloc (.cells #[.int .i64 0, .int .i64 0] 54)).cell? ⟨w.heap.size + 1, 1, none⟩ = some (.int .i64 0) := by simp [go_sem]
  have y0 : ((w.alloc (.cells #[.int .i64 wd, .slice ha hs.length hcap, .slice sa ss.length scap] 28)).alloc (.cells #[.int .i64 0, .int .i64 0] 54)).frozen? ⟨w.heap.size + 1, 0, none⟩ = false := by simp [go_sem]
  have y1 : ((w.alloc (.cells #[.int .i64 wd, .slice ha hs.length hcap, .slice sa ss.length scap] 28)).alloc (.cells #[.int .i64 0, .int .i64 0] 54)).frozen? ⟨w.heap.size + 1, 1, none⟩ = false := by simp [go_sem]
  have HZ := Lib.hid (And.intro B1 (And.intro (And.intro s0 s1) (And.intro y0 y1)))
  clear B1 s0 s1 y0 y1
  go_enter Try.func46, Try.ntmps46
  have HE := Lib.hid he
  clear he
  go_wp2_with fail
  refine CO.out.mono ?_
  clear CO
  rintro e w1 ⟨rfl, hb⟩
  rw [HE.out]
  have BR := HZ.out.1.trans (hb.mono HZ.out.1.size)
  have s0 := cell_on hb HZ.out.2.1.1
  have s1 := cell_on hb HZ.out.2.1.2
  have y0 := frozen_on hb HZ.out.2.1.1 HZ.out.2.2.1
  have y1 := frozen_on hb HZ.out.2.1.2 HZ.out.2.2.2
  clear hb HZ
  have HBR := Lib.hid BR
  clear BR
  go_wp2_with fail
  go_quiet (fail)
  go_wp2
  obtain ⟨u0, u1⟩ := span_set (.int .i64 0) (.int .i64 0) s0 s1
  refine bodyPost_ret (v := .tuple #[.agg #[.int .i64 0, .int .i64 0], .int .i64 9]) ?_ rfl ?_
  · exact results_ct (p := 4) (u := 5) (ty := 54) rfl _ _ (w.heap.size + 1) _ rfl (load_span u0 u1)
  · exact ⟨0, 0, 9, rfl, ((below_drewN HBR.out _).setCell (p := ⟨w.heap.size + 1, 0, none⟩) (Nat.le_succ _) _).setCell (p := ⟨w.heap.size + 1, 1, none⟩) (Nat.le_succ _) _, .inr (.inl ⟨HE.out, fun h => absurd h.1 (by simp), rfl, rfl, rfl⟩)⟩

set_option maxRecDepth 20000 in
set_option maxHeartbeats 4000000 in
theorem rcrosses_good {B : Nat} {m : Nat} {hv sv cv : Value} {hs : List (Int × Int)} {ss xs : List Int} {w : World} (hn : xs.length ≤ 1000) (hB : B ≤ w.heap.size) (hh : RS B w hv hs.length (spans hs)) (hss : RS B w sv ss.length (ints ss)) (hxs : RS B w cv xs.length (ints xs)) (he : landErr m hs ss xs = 0) (hpos : 0 < xs.length) :
    Calls Try.prog 46 #[.agg #[.int .i64 m, hv, sv], cv] w fun e w' => ∃ x y er, e = .returned (.tuple #[.agg #[.int .i64 x, .int .i64 y], .int .i64 er]) ∧ Below w.heap.size w w' ∧ CrossAns m hs ss xs x y er := by
  have B1 : Below w.heap.size w ((w.alloc (.cells #[.int .i64 m, hv, sv] 28)).alloc (.cells #[.int .i64 0, .int .i64 0] 54)) := ((Below.refl _ w).alloc (Nat.le_refl _) _).alloc (by simp) _
  have CO := Lib.hid (rland_any (B := B) (wd := m) (w := (w.alloc (.cells #[.int .i64 m, hv, sv] 28)).alloc (.cells #[.int .i64 0, .int .i64 0] 54)) hn (by have := B1.size; omega) (hh.below (B1.mono hB)) (hss.below (B1.mono hB)) (hxs.below (B1.mono hB)))
  have HOK : Hid (Gd.Ok ⟨m, hs, ss⟩) := Lib.hid (openErr_ok (landErr_good he).1)
  have HLD := Lib.hid (landErr_good he).2
  have HE := Lib.hid he
  have HRS := Lib.hid (And.intro hh (And.intro hss hB))
  rw [he] at CO
  have hlen : hs.length = ss.length := HOK.out.hn
  have hl : ss.length ≤ 100 := HOK.out.n1
  have HL := Lib.hid hlen
  have hss0 : 0 < ss.length := by obtain ⟨c, -, h⟩ := on_land hlen HLD.out hpos; omega
  obtain ⟨ha, hcap, rfl, hhc⟩ := hh
  obtain ⟨sa, scap, rfl, hsc⟩ := hss
  obtain ⟨ca, ccap, rfl, hcc⟩ := hxs
  obtain ⟨bh, hoff, rfl, hhb, hhcell⟩ := hhc (spans_ne (by omega))
  obtain ⟨sb, soff, rfl, hsb, hscell⟩ := hsc (ints_ne hss0)
  obtain ⟨cb, coff, rfl, hcb, hccell⟩ := hcc (ints_ne hpos)
  have HCC : Hid (∀ k, k < xs.length → ∀ W, Below w.heap.size w W → W.cell? ⟨cb, coff + k, none⟩ = some (.int .i64 (xs.getD k 0))) := Lib.hid (fun k hk W hbW => by
    rw [List.getD_eq_getElem?_getD]
    exact cell_below hbW (hccell _ _ (ints_at' xs k hk)) (by show cb < w.heap.size; omega))
  have HHC : Hid (∀ c, c < hs.length → ∀ W, Below w.heap.size w W → W.cell? ⟨bh, hoff + c * 2, none⟩ = some (.int .i64 (hs.getD c (0, 0)).1) ∧ W.cell? ⟨bh, hoff + c * 2 + 1, none⟩ = some (.int .i64 (hs.getD c (0, 0)).2)) := Lib.hid (fun c hc W hbW => by
    rw [List.getD_eq_getElem?_getD, List.getElem?_eq_getElem hc]
    exact ⟨cell_below hbW (hhcell _ _ (spans_lo _ c hc)) (by show bh < w.heap.size; omega), cell_below hbW (hhcell _ _ (spans_hi _ c hc)) (by show bh < w.heap.size; omega)⟩)
  clear hhc hsc hcc hhcell hscell hccell he hlen
  have M0 : CrM w m (.slice (some ⟨bh, hoff, none⟩) hs.length hcap) (.slice (some ⟨sb, soff, none⟩) ss.length scap) (0, 0) (w.heap.size + 1) 0 0 ((w.alloc (.cells #[.int .i64 m, .slice (some ⟨bh, hoff, none⟩) hs.length hcap, .slice (some ⟨sb, soff, none⟩) ss.length scap] 28)).alloc (.cells #[.int .i64 0, .int .i64 0] 54)) :=
    ⟨by simp [go_sem], by simp [go_sem], by simp [go_sem], ⟨by simp [go_sem], by simp [go_sem]⟩, ⟨by simp [go_sem], by simp [go_sem]⟩, ⟨by simp [go_sem], by simp [go_sem]⟩, ⟨by simp [go_sem], by simp [go_sem]⟩, Nat.lt_succ_self _, B1⟩
  have HM0 := Lib.hid M0
  clear M0 B1
  go_enter Try.func46, Try.ntmps46
  go_wp2_with fail
  refine CO.out.mono ?_
  clear CO
  rintro e w1 ⟨rfl, hb1⟩
  have HL1 := Lib.hid (HM0.out.below hb1)
  clear hb1 HM0
  obtain ⟨c0, hc0, hc0n⟩ := on_land HL.out HLD.out hpos
  obtain ⟨c1, hc1, hc1n⟩ := on_land HL.out HLD.out (k := xs.length - 1) (by omega)
  have q0 : w1.cell? ⟨cb, coff, none⟩ = some (.int .i64 c0) := by have := HCC.out 0 hpos _ HL1.out.be; rw [hc0] at this; exact this
  have q1 : w1.cell? ⟨cb, coff + (xs.length - 1), none⟩ = some (.int .i64 c1) := by have := HCC.out (xs.length - 1) (by omega) _ HL1.out.be; rw [hc1] at this; exact this
  have HI : Hid (isCross ⟨m, hs, ss⟩ xs ↔ atB ⟨m, hs, ss⟩ c0 1 = true ∧ atB ⟨m, hs, ss⟩ c1 2 = true ∧ ∀ j, j + 1 < xs.length → xs.getD j 0 ∈ nbrL m ss.length (xs.getD (j + 1) 0).toNat) := Lib.hid (by
    unfold isCross
    rw [hc0, hc1]
    exact ⟨fun h => h.2, fun h => ⟨hpos, h⟩⟩)
  have e1 : IntKind.i64.wrap ((xs.length : Int) - 1) = ((xs.length - 1 : Nat) : Int) := by rw [IntWalk.i64_in _ (by omega)]; omega
  have hp1 : xs.length - 1 < xs.length := by omega
  have hp0 : ((xs.length : Int) == 0) = false := by rw [beq_eq_false_iff_ne]; omega
  clear hc0 hc1
  have HCA : Hid (∀ (c : Nat) (s : Int) (W : World), c < ss.length → Below w.heap.size w W → Calls Try.prog 56 #[.agg #[.int .i64 m, .slice (some ⟨bh, hoff, none⟩) hs.length hcap, .slice (some ⟨sb, soff, none⟩) ss.length scap], .int .i64 c, .int .i64 s] W fun e w' => e = .returned (.bool (atB ⟨m, hs, ss⟩ c s)) ∧ Below W.heap.size W w') := Lib.hid (fun c s W hc hbW =>
    coast_any (B := B) (g := ⟨m, hs, ss⟩) HOK.out hc (by have h1 := HRS.out.2.2; have h2 := hbW.size; omega) (HRS.out.2.1.below (hbW.mono HRS.out.2.2)))
  have hC : (fun W => W.cell? ⟨w.heap.size, 0, none⟩ = some (.int .i64 m) ∧ W.cell? ⟨w.heap.size, 1, none⟩ = some (.slice (some ⟨bh, hoff, none⟩) hs.length hcap) ∧ W.cell? ⟨w.heap.size, 2, none⟩ = some (.slice (some ⟨sb, soff, none⟩) ss.length scap) ∧ W.cell? ⟨cb, coff, none⟩ = some (.int .i64 c0) ∧ W.cell? ⟨cb, coff + (xs.length - 1), none⟩ = some (.int .i64 c1)) w1.drew := ⟨HL1.out.f0, HL1.out.f1, HL1.out.f2, q0, q1⟩
  cases ha1 : atB ⟨m, hs, ss⟩ c0 1 with
  | false =>
    have HNI : Hid (¬ isCross ⟨m, hs, ss⟩ xs) := Lib.hid (fun h => by have := (HI.out.1 h).1; rw [ha1] at this; cases this)
    have HC1 := Lib.hid (HCA.out c0 1 w1.drew hc0n HL1.out.be.drew)
    rw [ha1] at HC1
    clear ha1 HI HCA
    go_wp2_with fail
    refine Lim.regC' (fun W => W.cell? ⟨w.heap.size, 0, none⟩ = some (.int .i64 m) ∧ W.cell? ⟨w.heap.size, 1, none⟩ = some (.slice (some ⟨bh, hoff, none⟩) hs.length hcap) ∧ W.cell? ⟨w.heap.size, 2, none⟩ = some (.slice (some ⟨sb, soff, none⟩) ss.length scap) ∧ W.cell? ⟨cb, coff, none⟩ = some (.int .i64 c0) ∧ W.cell? ⟨cb, coff + (xs.length - 1), none⟩ = some (.int .i64 c1)) [] #[false, false, false, false, false, false, false, false, false, false, false, false, false, false, false, false, false, false, false, false] (by kernel_rfl) rfl ?_
    refine Lim.stepR 0 (fun _ => trivial) rfl (by kernel_rfl) (fun _ _ _ _ h => h) hC rfl ?_; apply Exists.intro; refine ⟨?_, ?_⟩
    · rintro w ⟨r1, r2, r3, r4, r5⟩; go_simp; try with_reducible rfl
    simp only [Act.put, List.setIfInBounds_toArray, List.set_cons_succ, List.set_cons_zero]
    refine Lim.stepR 1 (fun _ => trivial) rfl (by kernel_rfl) (fun _ _ _ _ h => h) hC rfl ?_; apply Exists.intro; refine ⟨?_, ?_⟩
    · rintro w ⟨r1, r2, r3, r4, r5⟩; go_simp; try with_reducible rfl
    simp only [Act.put, List.setIfInBounds_toArray, List.set_cons_succ, List.set_cons_zero]
    refine Lim.stepR 2 (fun _ => trivial) rfl (by kernel_rfl) (fun _ _ _ _ h => h) hC rfl ?_; apply Exists.intro; refine ⟨?_, ?_⟩
    · rintro w ⟨r1, r2, r3, r4, r5⟩; go_simp; try with_reducible rfl
    simp only [Act.put, List.setIfInBounds_toArray, List.set_cons_succ, List.set_cons_zero]
    refine Lim.stepR 3 (fun _ => trivial) rfl (by kernel_rfl) (fun _ _ _ _ h => h) hC rfl ?_; apply Exists.intro; refine ⟨?_, ?_⟩
    · rintro w ⟨r1, r2, r3, r4, r5⟩; go_simp; try with_reducible rfl
    simp only [Act.put, List.setIfInBounds_toArray, List.set_cons_succ, List.set_cons_zero]
    refine Lim.stepR 4 (fun _ => trivial) rfl (by kernel_rfl) (fun _ _ _ _ h => h) hC rfl ?_; apply Exists.intro; refine ⟨?_, ?_⟩
    · rintro w ⟨r1, r2, r3, r4, r5⟩; go_simp; try with_reducible rfl
    simp only [Act.put, List.setIfInBounds_toArray, List.set_cons_succ, List.set_cons_zero]
    refine Lim.stepR 5 (fun _ => trivial) rfl (by kernel_rfl) (fun _ _ _ _ h => h) hC rfl ?_; apply Exists.intro; refine ⟨?_, ?_⟩
    · rintro w ⟨r1, r2, r3, r4, r5⟩; go_simp; try with_reducible rfl
    simp only [Act.put, List.setIfInBounds_toArray, List.set_cons_succ, List.set_cons_zero]
    refine Lim.stepR 6 (fun _ => trivial) rfl (by kernel_rfl) (fun _ _ _ _ h => h) hC rfl ?_; apply Exists.intro; refine ⟨?_, ?_⟩
    · rintro w ⟨r1, r2, r3, r4, r5⟩; go_simp; try with_reducible rfl
    simp only [Act.put, List.setIfInBounds_toArray, List.set_cons_succ, List.set_cons_zero]
    refine Lim.stepE 7 (fun _ => trivial) rfl (by kernel_rfl) rfl (fun K hK => ?_)   -- E call
    go_simp
    refine ⟨rfl, (callsIn_wide.2 HC1.out).mono ?_⟩
    rintro e w2 ⟨rfl, hb⟩
    have L2 := HL1.out.below (drewL hb)
    have hC2 : (fun W => W.cell? ⟨w.heap.size, 0, none⟩ = some (.int .i64 m) ∧ W.cell? ⟨w.heap.size, 1, none⟩ = some (.slice (some ⟨bh, hoff, none⟩) hs.length hcap) ∧ W.cell? ⟨w.heap.size, 2, none⟩ = some (.slice (some ⟨sb, soff, none⟩) ss.length scap) ∧ W.cell? ⟨cb, coff, none⟩ = some (.int .i64 c0) ∧ W.cell? ⟨cb, coff + (xs.length - 1), none⟩ = some (.int .i64 c1)) w2 := ⟨L2.f0, L2.f1, L2.f2, cell_on (drewL hb) q0, cell_on (drewL hb) q1⟩
    have HL2 := Lib.hid L2
    clear hb L2
    refine hK _ _ hC2 ?_
    simp only [Act.put, List.setIfInBounds_toArray, List.set_cons_succ, List.set_cons_zero]
    refine Lim.stepR 8 (fun _ => trivial) rfl (by kernel_rfl) (fun _ _ _ _ h => h) hC2 rfl ?_; apply Exists.intro; refine ⟨?_, ?_⟩
    · rintro w ⟨r1, r2, r3, r4, r5⟩; go_simp; try with_reducible rfl
    simp only [Act.put, List.setIfInBounds_toArray, List.set_cons_succ, List.set_cons_zero]
    refine Lim.stepR 9 (fun _ => trivial) rfl (by kernel_rfl) (fun _ _ _ _ h => h) hC2 rfl ?_; apply Exists.intro; refine ⟨?_, ?_⟩
    · rintro w ⟨r1, r2, r3, r4, r5⟩; go_simp; try with_reducible rfl
    simp only [Act.put, List.setIfInBounds_toArray, List.set_cons_succ, List.set_cons_zero]
    refine Lim.stepR 10 (fun _ => trivial) rfl (by kernel_rfl) (fun _ _ _ _ h => h) hC2 rfl ?_; apply Exists.intro; refine ⟨?_, ?_⟩
    · rintro w ⟨r1, r2, r3, r4, r5⟩; go_simp; try with_reducible rfl
    simp only [Act.put, List.setIfInBounds_toArray, List.set_cons_succ, List.set_cons_zero]
    refine Lim.stepS 11 (fun _ => trivial) rfl (by kernel_rfl) (fun _ _ _ _ h => h) hC2 rfl ?_
    simp only [Act.put, List.setIfInBounds_toArray, List.set_cons_succ, List.set_cons_zero]
    refine Lim.stepS 12 (fun _ => trivial) rfl (by kernel_rfl) (fun _ _ _ _ h => h) hC2 rfl ?_
    simp only [Act.put, List.setIfInBounds_toArray, List.set_cons_succ, List.set_cons_zero]
    refine Lim.stepS 13 (fun _ => trivial) rfl (by kernel_rfl) (fun _ _ _ _ h => h) hC2 rfl ?_
    simp only [Act.put, List.setIfInBounds_toArray, List.set_cons_succ, List.set_cons_zero]
    refine Lim.stepS 14 (fun _ => trivial) rfl (by kernel_rfl) (fun _ _ _ _ h => h) hC2 rfl ?_
    simp only [Act.put, List.setIfInBounds_toArray, List.set_cons_succ, List.set_cons_zero]
    refine Lim.stepS 15 (fun _ => trivial) rfl (by kernel_rfl) (fun _ _ _ _ h => h) hC2 rfl ?_
    simp only [Act.put, List.setIfInBounds_toArray, List.set_cons_succ, List.set_cons_zero]
    refine Lim.stepS 16 (fun _ => trivial) rfl (by kernel_rfl) (fun _ _ _ _ h => h) hC2 rfl ?_
    simp only [Act.put, List.setIfInBounds_toArray, List.set_cons_succ, List.set_cons_zero]
    refine Lim.stepS 17 (fun _ => trivial) rfl (by kernel_rfl) (fun _ _ _ _ h => h) hC2 rfl ?_
    simp only [Act.put, List.setIfInBounds_toArray, List.set_cons_succ, List.set_cons_zero]
    refine Lim.stepS 18 (fun _ => trivial) rfl (by kernel_rfl) (fun _ _ _ _ h => h) hC2 rfl ?_
    simp only [Act.put, List.setIfInBounds_toArray, List.set_cons_succ, List.set_cons_zero]
    refine Lim.stepR 19 (fun _ => trivial) rfl (by kernel_rfl) (fun _ _ _ _ h => h) hC2 rfl ?_; apply Exists.intro; refine ⟨?_, ?_⟩
    · rintro w ⟨r1, r2, r3, r4, r5⟩; go_simp; try with_reducible rfl
    simp only [Act.put, List.setIfInBounds_toArray, List.set_cons_succ, List.set_cons_zero]
    refine Lim.stepD (by kernel_rfl) ?_
    obtain ⟨s0, s1⟩ := HL2.out.z0
    obtain ⟨y0, y1⟩ := HL2.out.y0
    go_wp2
    obtain ⟨u0, u1⟩ := span_set (.int .i64 0) (.int .i64 0) s0 s1
    refine bodyPost_ret (v := .tuple #[.agg #[.int .i64 0, .int .i64 0], .int .i64 9]) ?_ rfl ?_
    · exact results_ct (p := 4) (u := 5) (ty := 54) rfl _ _ (w.heap.size + 1) _ rfl (load_span u0 u1)
    · exact ⟨0, 0, 9, rfl, (HL2.out.be.setCell (p := ⟨w.heap.size + 1, 0, none⟩) (Nat.le_succ _) _).setCell (p := ⟨w.heap.size + 1, 1, none⟩) (Nat.le_succ _) _, .inr (.inl ⟨HE.out, HNI.out, rfl, rfl, rfl⟩)⟩
  | true =>
    have HC1 := Lib.hid (HCA.out c0 1 w1.drew hc0n HL1.out.be.drew)
    rw [ha1] at HC1
    cases ha2 : atB ⟨m, hs, ss⟩ c1 2 with
    | false =>
      have HNI : Hid (¬ isCross ⟨m, hs, ss⟩ xs) := Lib.hid (fun h => by have := (HI.out.1 h).2.1; rw [ha2] at this; cases this)
      have HC2' := Lib.hid (fun W hbW => by have := HCA.out c1 2 W hc1n hbW; rw [ha2] at this; exact this)
      clear ha1 ha2 HI HCA
      go_wp2_with fail
      refine Lim.regC' (fun W => W.cell? ⟨w.heap.size, 0, none⟩ = some (.int .i64 m) ∧ W.cell? ⟨w.heap.size, 1, none⟩ = some (.slice (some ⟨bh, hoff, none⟩) hs.length hcap) ∧ W.cell? ⟨w.heap.size, 2, none⟩ = some (.slice (some ⟨sb, soff, none⟩) ss.length scap) ∧ W.cell? ⟨cb, coff, none⟩ = some (.int .i64 c0) ∧ W.cell? ⟨cb, coff + (xs.length - 1), none⟩ = some (.int .i64 c1)) [] #[false, false, false, false, false, false, false, false, false, false, false, false, false, false, false, false, false, false, false, false] (by kernel_rfl) rfl ?_
      refine Lim.stepR 0 (fun _ => trivial) rfl (by kernel_rfl) (fun _ _ _ _ h => h) hC rfl ?_; apply Exists.intro; refine ⟨?_, ?_⟩
      · rintro w ⟨r1, r2, r3, r4, r5⟩; go_simp; try with_reducible rfl
      simp only [Act.put, List.setIfInBounds_toArray, List.set_cons_succ, List.set_cons_zero]
      refine Lim.stepR 1 (fun _ => trivial) rfl (by kernel_rfl) (fun _ _ _ _ h => h) hC rfl ?_; apply Exists.intro; refine ⟨?_, ?_⟩
      · rintro w ⟨r1, r2, r3, r4, r5⟩; go_simp; try with_reducible rfl
      simp only [Act.put, List.setIfInBounds_toArray, List.set_cons_succ, List.set_cons_zero]
      refine Lim.stepR 2 (fun _ => trivial) rfl (by kernel_rfl) (fun _ _ _ _ h => h) hC rfl ?_; apply Exists.intro; refine ⟨?_, ?_⟩
      · rintro w ⟨r1, r2, r3, r4, r5⟩; go_simp; try with_reducible rfl
      simp only [Act.put, List.setIfInBounds_toArray, List.set_cons_succ, List.set_cons_zero]
      refine Lim.stepR 3 (fun _ => trivial) rfl (by kernel_rfl) (fun _ _ _ _ h => h) hC rfl ?_; apply Exists.intro; refine ⟨?_, ?_⟩
      · rintro w ⟨r1, r2, r3, r4, r5⟩; go_simp; try with_reducible rfl
      simp only [Act.put, List.setIfInBounds_toArray, List.set_cons_succ, List.set_cons_zero]
      refine Lim.stepR 4 (fun _ => trivial) rfl (by kernel_rfl) (fun _ _ _ _ h => h) hC rfl ?_; apply Exists.intro; refine ⟨?_, ?_⟩
      · rintro w ⟨r1, r2, r3, r4, r5⟩; go_simp; try with_reducible rfl
      simp only [Act.put, List.setIfInBounds_toArray, List.set_cons_succ, List.set_cons_zero]
      refine Lim.stepR 5 (fun _ => trivial) rfl (by kernel_rfl) (fun _ _ _ _ h => h) hC rfl ?_; apply Exists.intro; refine ⟨?_, ?_⟩
      · rintro w ⟨r1, r2, r3, r4, r5⟩; go_simp; try with_reducible rfl
      simp only [Act.put, List.setIfInBounds_toArray, List.set_cons_succ, List.set_cons_zero]
      refine Lim.stepR 6 (fun _ => trivial) rfl (by kernel_rfl) (fun _ _ _ _ h => h) hC rfl ?_; apply Exists.intro; refine ⟨?_, ?_⟩
      · rintro w ⟨r1, r2, r3, r4, r5⟩; go_simp; try with_reducible rfl
      simp only [Act.put, List.setIfInBounds_toArray, List.set_cons_succ, List.set_cons_zero]
      refine Lim.stepE 7 (fun _ => trivial) rfl (by kernel_rfl) rfl (fun K hK => ?_)   -- E call
      go_simp
      refine ⟨rfl, (callsIn_wide.2 HC1.out).mono ?_⟩
      rintro e w2 ⟨rfl, hb⟩
      have L2 := HL1.out.below (drewL hb)
      have hC2 : (fun W => W.cell? ⟨w.heap.size, 0, none⟩ = some (.int .i64 m) ∧ W.cell? ⟨w.heap.size, 1, none⟩ = some (.slice (some ⟨bh, hoff, none⟩) hs.length hcap) ∧ W.cell? ⟨w.heap.size, 2, none⟩ = some (.slice (some ⟨sb, soff, none⟩) ss.length scap) ∧ W.cell? ⟨cb, coff, none⟩ = some (.int .i64 c0) ∧ W.cell? ⟨cb, coff + (xs.length - 1), none⟩ = some (.int .i64 c1)) w2 := ⟨L2.f0, L2.f1, L2.f2, cell_on (drewL hb) q0, cell_on (drewL hb) q1⟩
      have HL2 := Lib.hid L2
      clear hb L2
      refine hK _ _ hC2 ?_
      simp only [Act.put, List.setIfInBounds_toArray, List.set_cons_succ, List.set_cons_zero]
      refine Lim.stepR 8 (fun _ => trivial) rfl (by kernel_rfl) (fun _ _ _ _ h => h) hC2 rfl ?_; apply Exists.intro; refine ⟨?_, ?_⟩
      · rintro w ⟨r1, r2, r3, r4, r5⟩; go_simp; try with_reducible rfl
      simp only [Act.put, List.setIfInBounds_toArray, List.set_cons_succ, List.set_cons_zero]
      refine Lim.stepR 9 (fun _ => trivial) rfl (by kernel_rfl) (fun _ _ _ _ h => h) hC2 rfl ?_; apply Exists.intro; refine ⟨?_, ?_⟩
      · rintro w ⟨r1, r2, r3, r4, r5⟩; go_simp; try with_reducible rfl
      simp only [Act.put, List.setIfInBounds_toArray, List.set_cons_succ, List.set_cons_zero]
      refine Lim.stepR 10 (fun _ => trivial) rfl (by kernel_rfl) (fun _ _ _ _ h => h) hC2 rfl ?_; apply Exists.intro; refine ⟨?_, ?_⟩
      · rintro w ⟨r1, r2, r3, r4, r5⟩; go_simp; try with_reducible rfl
      simp only [Act.put, List.setIfInBounds_toArray, List.set_cons_succ, List.set_cons_zero]
      refine Lim.stepR 11 (fun _ => trivial) rfl (by kernel_rfl) (fun _ _ _ _ h => h) hC2 rfl ?_; apply Exists.intro; refine ⟨?_, ?_⟩
      · rintro w ⟨r1, r2, r3, r4, r5⟩; go_simp; try with_reducible rfl
      simp only [Act.put, List.setIfInBounds_toArray, List.set_cons_succ, List.set_cons_zero]
      refine Lim.stepR 12 (fun _ => trivial) rfl (by kernel_rfl) (fun _ _ _ _ h => h) hC2 rfl ?_; apply Exists.intro; refine ⟨?_, ?_⟩
      · rintro w ⟨r1, r2, r3, r4, r5⟩; go_simp; try with_reducible rfl
      simp only [Act.put, List.setIfInBounds_toArray, List.set_cons_succ, List.set_cons_zero]
      refine Lim.stepR 13 (fun _ => trivial) rfl (by kernel_rfl) (fun _ _ _ _ h => h) hC2 rfl ?_; apply Exists.intro; refine ⟨?_, ?_⟩
      · rintro w ⟨r1, r2, r3, r4, r5⟩; go_simp; try with_reducible rfl
      simp only [Act.put, List.setIfInBounds_toArray, List.set_cons_succ, List.set_cons_zero]
      refine Lim.stepR 14 (fun _ => trivial) rfl (by kernel_rfl) (fun _ _ _ _ h => h) hC2 rfl ?_; apply Exists.intro; refine ⟨?_, ?_⟩
      · rintro w ⟨r1, r2, r3, r4, r5⟩; go_simp; try with_reducible rfl
      simp only [Act.put, List.setIfInBounds_toArray, List.set_cons_succ, List.set_cons_zero]
      refine Lim.stepR 15 (fun _ => trivial) rfl (by kernel_rfl) (fun _ _ _ _ h => h) hC2 rfl ?_; apply Exists.intro; refine ⟨?_, ?_⟩
      · rintro w ⟨r1, r2, r3, r4, r5⟩; go_simp; try with_reducible rfl
      simp only [Act.put, List.setIfInBounds_toArray, List.set_cons_succ, List.set_cons_zero]
      refine Lim.stepR 16 (fun _ => trivial) rfl (by kernel_rfl) (fun _ _ _ _ h => h) hC2 rfl ?_; apply Exists.intro; refine ⟨?_, ?_⟩
      · rintro w ⟨r1, r2, r3, r4, r5⟩; go_simp; try with_reducible rfl
      simp only [Act.put, List.setIfInBounds_toArray, List.set_cons_succ, List.set_cons_zero]
      refine Lim.stepE 17 (fun _ => trivial) rfl (by kernel_rfl) rfl (fun K hK => ?_)   -- E call
      have HC2 := Lib.hid (HC2'.out w2 HL2.out.be)
      go_simp
      refine ⟨rfl, (callsIn_wide.2 HC2.out).mono ?_⟩
      rintro e w3 ⟨rfl, hb⟩
      have L3 := HL2.out.below hb
      have hC3 : (fun W => W.cell? ⟨w.heap.size, 0, none⟩ = some (.int .i64 m) ∧ W.cell? ⟨w.heap.size, 1, none⟩ = some (.slice (some ⟨bh, hoff, none⟩) hs.length hcap) ∧ W.cell? ⟨w.heap.size, 2, none⟩ = some (.slice (some ⟨sb, soff, none⟩) ss.length scap) ∧ W.cell? ⟨cb, coff, none⟩ = some (.int .i64 c0) ∧ W.cell? ⟨cb, coff + (xs.length - 1), none⟩ = some (.int .i64 c1)) w3 := ⟨L3.f0, L3.f1, L3.f2, cell_on hb hC2.2.2.2.1, cell_on hb hC2.2.2.2.2⟩
      have HL3 := Lib.hid L3
      clear hb L3
      refine hK _ _ hC3 ?_
      simp only [Act.put, List.setIfInBounds_toArray, List.set_cons_succ, List.set_cons_zero]
      refine Lim.stepR 18 (fun _ => trivial) rfl (by kernel_rfl) (fun _ _ _ _ h => h) hC3 rfl ?_; apply Exists.intro; refine ⟨?_, ?_⟩
      · rintro w ⟨r1, r2, r3, r4, r5⟩; go_simp; try with_reducible rfl
      simp only [Act.put, List.setIfInBounds_toArray, List.set_cons_succ, List.set_cons_zero]
      refine Lim.stepR 19 (fun _ => trivial) rfl (by kernel_rfl) (fun _ _ _ _ h => h) hC3 rfl ?_; apply Exists.intro; refine ⟨?_, ?_⟩
      · rintro w ⟨r1, r2, r3, r4, r5⟩; go_simp; try with_reducible rfl
      simp only [Act.put, List.setIfInBounds_toArray, List.set_cons_succ, List.set_cons_zero]
      refine Lim.stepD (by kernel_rfl) ?_
      obtain ⟨s0, s1⟩ := HL3.out.z0
      obtain ⟨y0, y1⟩ := HL3.out.y0
      go_wp2
      obtain ⟨u0, u1⟩ := span_set (.int .i64 0) (.int .i64 0) s0 s1
      refine bodyPost_ret (v := .tuple #[.agg #[.int .i64 0, .int .i64 0], .int .i64 9]) ?_ rfl ?_
      · exact results_ct (p := 4) (u := 5) (ty := 54) rfl _ _ (w.heap.size + 1) _ rfl (load_span u0 u1)
      · exact ⟨0, 0, 9, rfl, (HL3.out.be.setCell (p := ⟨w.heap.size + 1, 0, none⟩) (Nat.le_succ _) _).setCell (p := ⟨w.heap.size + 1, 1, none⟩) (Nat.le_succ _) _, .inr (.inl ⟨HE.out, HNI.out, rfl, rfl, rfl⟩)⟩
    | true =>
      have HI2 : Hid ((∀ j, j + 1 < xs.length → xs.getD j 0 ∈ nbrL m ss.length (xs.getD (j + 1) 0).toNat) ↔ isCross ⟨m, hs, ss⟩ xs) := Lib.hid ⟨fun h => HI.out.2 ⟨ha1, ha2, h⟩, fun h => (HI.out.1 h).2.2⟩
      have HC2' := Lib.hid (fun W hbW => by have := HCA.out c1 2 W hc1n hbW; rw [ha2] at this; exact this)
      clear ha1 ha2 HI HCA
      go_wp2_with fail
      refine Lim.regC' (fun W => W.cell? ⟨w.heap.size, 0, none⟩ = some (.int .i64 m) ∧ W.cell? ⟨w.heap.size, 1, none⟩ = some (.slice (some ⟨bh, hoff, none⟩) hs.length hcap) ∧ W.cell? ⟨w.heap.size, 2, none⟩ = some (.slice (some ⟨sb, soff, none⟩) ss.length scap) ∧ W.cell? ⟨cb, coff, none⟩ = some (.int .i64 c0) ∧ W.cell? ⟨cb, coff + (xs.length - 1), none⟩ = some (.int .i64 c1)) [] #[false, false, false, false, false, false, false, false, false, false, false, false, false, false, false, false, false, false, false, false] (by kernel_rfl) rfl ?_
      refine Lim.stepR 0 (fun _ => trivial) rfl (by kernel_rfl) (fun _ _ _ _ h => h) hC rfl ?_; apply Exists.intro; refine ⟨?_, ?_⟩
      · rintro w ⟨r1, r2, r3, r4, r5⟩; go_simp; try with_reducible rfl
      simp only [Act.put, List.setIfInBounds_toArray, List.set_cons_succ, List.set_cons_zero]
      refine Lim.stepR 1 (fun _ => trivial) rfl (by kernel_rfl) (fun _ _ _ _ h => h) hC rfl ?_; apply Exists.intro; refine ⟨?_, ?_⟩
      · rintro w ⟨r1, r2, r3, r4, r5⟩; go_simp; try with_reducible rfl
      simp only [Act.put, List.setIfInBounds_toArray, List.set_cons_succ, List.set_cons_zero]
      refine Lim.stepR 2 (fun _ => trivial) rfl (by kernel_rfl) (fun _ _ _ _ h => h) hC rfl ?_; apply Exists.intro; refine ⟨?_, ?_⟩
      · rintro w ⟨r1, r2, r3, r4, r5⟩; go_simp; try with_reducible rfl
      simp only [Act.put, List.setIfInBounds_toArray, List.set_cons_succ, List.set_cons_zero]
      refine Lim.stepR 3 (fun _ => trivial) rfl (by kernel_rfl) (fun _ _ _ _ h => h) hC rfl ?_; apply Exists.intro; refine ⟨?_, ?_⟩
      · rintro w ⟨r1, r2, r3, r4, r5⟩; go_simp; try with_reducible rfl
      simp only [Act.put, List.setIfInBounds_toArray, List.set_cons_succ, List.set_cons_zero]
      refine Lim.stepR 4 (fun _ => trivial) rfl (by kernel_rfl) (fun _ _ _ _ h => h) hC rfl ?_; apply Exists.intro; refine ⟨?_, ?_⟩
      · rintro w ⟨r1, r2, r3, r4, r5⟩; go_simp; try with_reducible rfl
      simp only [Act.put, List.setIfInBounds_toArray, List.set_cons_succ, List.set_cons_zero]
      refine Lim.stepR 5 (fun _ => trivial) rfl (by kernel_rfl) (fun _ _ _ _ h => h) hC rfl ?_; apply Exists.intro; refine ⟨?_, ?_⟩
      · rintro w ⟨r1, r2, r3, r4, r5⟩; go_simp; try with_reducible rfl
      simp only [Act.put, List.setIfInBounds_toArray, List.set_cons_succ, List.set_cons_zero]
      refine Lim.stepR 6 (fun _ => trivial) rfl (by kernel_rfl) (fun _ _ _ _ h => h) hC rfl ?_; apply Exists.intro; refine ⟨?_, ?_⟩
      · rintro w ⟨r1, r2, r3, r4, r5⟩; go_simp; try with_reducible rfl
      simp only [Act.put, List.setIfInBounds_toArray, List.set_cons_succ, List.set_cons_zero]
      refine Lim.stepE 7 (fun _ => trivial) rfl (by kernel_rfl) rfl (fun K hK => ?_)   -- E call
      go_simp
      refine ⟨rfl, (callsIn_wide.2 HC1.out).mono ?_⟩
      rintro e w2 ⟨rfl, hb⟩
      have L2 := HL1.out.below (drewL hb)
      have hC2 : (fun W => W.cell? ⟨w.heap.size, 0, none⟩ = some (.int .i64 m) ∧ W.cell? ⟨w.heap.size, 1, none⟩ = some (.slice (some ⟨bh, hoff, none⟩) hs.length hcap) ∧ W.cell? ⟨w.heap.size, 2, none⟩ = some (.slice (some ⟨sb, soff, none⟩) ss.length scap) ∧ W.cell? ⟨cb, coff, none⟩ = some (.int .i64 c0) ∧ W.cell? ⟨cb, coff + (xs.length - 1), none⟩ = some (.int .i64 c1)) w2 := ⟨L2.f0, L2.f1, L2.f2, cell_on (drewL hb) q0, cell_on (drewL hb) q1⟩
      have HL2 := Lib.hid L2
      clear hb L2
      refine hK _ _ hC2 ?_
      simp only [Act.put, List.setIfInBounds_toArray, List.set_cons_succ, List.set_cons_zero]
      refine Lim.stepR 8 (fun _ => trivial) rfl (by kernel_rfl) (fun _ _ _ _ h => h) hC2 rfl ?_; apply Exists.intro; refine ⟨?_, ?_⟩
      · rintro w ⟨r1, r2, r3, r4, r5⟩; go_simp; try with_reducible rfl
      simp only [Act.put, List.setIfInBounds_toArray, List.set_cons_succ, List.set_cons_zero]
      refine Lim.stepR 9 (fun _ => trivial) rfl (by kernel_rfl) (fun _ _ _ _ h => h) hC2 rfl ?_; apply Exists.intro; refine ⟨?_, ?_⟩
      · rintro w ⟨r1, r2, r3, r4, r5⟩; go_simp; try with_reducible rfl
      simp only [Act.put, List.setIfInBounds_toArray, List.set_cons_succ, List.set_cons_zero]
      refine Lim.stepR 10 (fun _ => trivial) rfl (by kernel_rfl) (fun _ _ _ _ h => h) hC2 rfl ?_; apply Exists.intro; refine ⟨?_, ?_⟩
      · rintro w ⟨r1, r2, r3, r4, r5⟩; go_simp; try with_reducible rfl
      simp only [Act.put, List.setIfInBounds_toArray, List.set_cons_succ, List.set_cons_zero]
      refine Lim.stepR 11 (fun _ => trivial) rfl (by kernel_rfl) (fun _ _ _ _ h => h) hC2 rfl ?_; apply Exists.intro; refine ⟨?_, ?_⟩
      · rintro w ⟨r1, r2, r3, r4, r5⟩; go_simp; try with_reducible rfl
      simp only [Act.put, List.setIfInBounds_toArray, List.set_cons_succ, List.set_cons_zero]
      refine Lim.stepR 12 (fun _ => trivial) rfl (by kernel_rfl) (fun _ _ _ _ h => h) hC2 rfl ?_; apply Exists.intro; refine ⟨?_, ?_⟩
      · rintro w ⟨r1, r2, r3, r4, r5⟩; go_simp; try with_reducible rfl
      simp only [Act.put, List.setIfInBounds_toArray, List.set_cons_succ, List.set_cons_zero]
      refine Lim.stepR 13 (fun _ => trivial) rfl (by kernel_rfl) (fun _ _ _ _ h => h) hC2 rfl ?_; apply Exists.intro; refine ⟨?_, ?_⟩
      · rintro w ⟨r1, r2, r3, r4, r5⟩; go_simp; try with_reducible rfl
      simp only [Act.put, List.setIfInBounds_toArray, List.set_cons_succ, List.set_cons_zero]
      refine Lim.stepR 14 (fun _ => trivial) rfl (by kernel_rfl) (fun _ _ _ _ h => h) hC2 rfl ?_; apply Exists.intro; refine ⟨?_, ?_⟩
      · rintro w ⟨r1, r2, r3, r4, r5⟩; go_simp; try with_reducible rfl
      simp only [Act.put, List.setIfInBounds_toArray, List.set_cons_succ, List.set_cons_zero]
      refine Lim.stepR 15 (fun _ => trivial) rfl (by kernel_rfl) (fun _ _ _ _ h => h) hC2 rfl ?_; apply Exists.intro; refine ⟨?_, ?_⟩
      · rintro w ⟨r1, r2, r3, r4, r5⟩; go_simp; try with_reducible rfl
      simp only [Act.put, List.setIfInBounds_toArray, List.set_cons_succ, List.set_cons_zero]
      refine Lim.stepR 16 (fun _ => trivial) rfl (by kernel_rfl) (fun _ _ _ _ h => h) hC2 rfl ?_; apply Exists.intro; refine ⟨?_, ?_⟩
      · rintro w ⟨r1, r2, r3, r4, r5⟩; go_simp; try with_reducible rfl
      simp only [Act.put, List.setIfInBounds_toArray, List.set_cons_succ, List.set_cons_zero]
      refine Lim.stepE 17 (fun _ => trivial) rfl (by kernel_rfl) rfl (fun K hK => ?_)   -- E call
      have HC2 := Lib.hid (HC2'.out w2 HL2.out.be)
      go_simp
      refine ⟨rfl, (callsIn_wide.2 HC2.out).mono ?_⟩
      rintro e w3 ⟨rfl, hb⟩
      have L3 := HL2.out.below hb
      have hC3 : (fun W => W.cell? ⟨w.heap.size, 0, none⟩ = some (.int .i64 m) ∧ W.cell? ⟨w.heap.size, 1, none⟩ = some (.slice (some ⟨bh, hoff, none⟩) hs.length hcap) ∧ W.cell? ⟨w.heap.size, 2, none⟩ = some (.slice (some ⟨sb, soff, none⟩) ss.length scap) ∧ W.cell? ⟨cb, coff, none⟩ = some (.int .i64 c0) ∧ W.cell? ⟨cb, coff + (xs.length - 1), none⟩ = some (.int .i64 c1)) w3 := ⟨L3.f0, L3.f1, L3.f2, cell_on hb hC2.2.2.2.1, cell_on hb hC2.2.2.2.2⟩
      have HL3 := Lib.hid L3
      clear hb L3
      refine hK _ _ hC3 ?_
      simp only [Act.put, List.setIfInBounds_toArray, List.set_cons_succ, List.set_cons_zero]
      refine Lim.stepR 18 (fun _ => trivial) rfl (by kernel_rfl) (fun _ _ _ _ h => h) hC3 rfl ?_; apply Exists.intro; refine ⟨?_, ?_⟩
      · rintro w ⟨r1, r2, r3, r4, r5⟩; go_simp; try with_reducible rfl
      simp only [Act.put, List.setIfInBounds_toArray, List.set_cons_succ, List.set_cons_zero]
      refine Lim.stepR 19 (fun _ => trivial) rfl (by kernel_rfl) (fun _ _ _ _ h => h) hC3 rfl ?_; apply Exists.intro; refine ⟨?_, ?_⟩
      · rintro w ⟨r1, r2, r3, r4, r5⟩; go_simp; try with_reducible rfl
      simp only [Act.put, List.setIfInBounds_toArray, List.set_cons_succ, List.set_cons_zero]
      refine Lim.stepD (by kernel_rfl) ?_
      have hb3 : Below w3.heap.size w3 (w3.alloc (.cells #[.int .i64 0, .int .i64 0] 54)) := (Below.refl _ w3).alloc (Nat.le_refl _) _
      have hz3 := HL3.out.be.size
      have L3' := HL3.out.below hb3
      have M3 : CrM w m (.slice (some ⟨bh, hoff, none⟩) hs.length hcap) (.slice (some ⟨sb, soff, none⟩) ss.length scap) (0, 0) w3.heap.size 0 0 (w3.alloc (.cells #[.int .i64 0, .int .i64 0] 54)) :=
        ⟨L3'.f0, L3'.f1, L3'.f2, L3'.z0, L3'.y0, ⟨by simp [go_sem], by simp [go_sem]⟩, ⟨by simp [go_sem], by simp [go_sem]⟩, by have := World.block_lt_of_cell? _ _ HL3.out.f0; exact this, L3'.be⟩
      have HM3 := Lib.hid M3
      have HZ3 : Hid (w.heap.size + 1 < w3.heap.size) := Lib.hid (World.block_lt_of_cell? _ _ HL3.out.z0.1)
      clear M3 L3' hb3 hC hC2 hC3 hz3 q0 q1 HL1 HL2 HL3 HC1 HC2' HC2
      go_wp2_with fail
      obtain ⟨ps, hps⟩ : ∃ ps, ps = w3.heap.size := ⟨_, rfl⟩
      rw [← hps] at HM3 HZ3 ⊢
      clear hps
      generalize (w3.alloc (.cells #[.int .i64 0, .int .i64 0] 54)) = w5 at HM3 ⊢
      go_loopw [9] (fun i wr => ∃ k : Nat, k ≤ xs.length ∧ i = .int .i64 k ∧ CrM w m (.slice (some ⟨bh, hoff, none⟩) hs.length hcap) (.slice (some ⟨sb, soff, none⟩) ss.length scap) (0, 0) ps (maxL (losOf hs (xs.take k)) 0) (maxL (hisOf hs (xs.take k)) 0) wr ∧ Hid (∀ j, j + 1 < k → xs.getD j 0 ∈ nbrL m ss.length (xs.getD (j + 1) 0).toNat)) (fun i _ => xs.length - (intOf i).toNat)
      case atStart => exact ⟨0, Nat.zero_le _, rfl, HM3.out, Lib.hid (fun j hj => by omega)⟩
      case round =>
        clear HM3
        obtain ⟨k, hk, rfl, L, hP⟩ := hrel
        have HLL := Lib.hid L
        by_cases hlt : k < xs.length
        · obtain ⟨c, hc, hcn⟩ := on_land HL.out HLD.out hlt
          have hcl : c < hs.length := by have := HL.out; omega
          obtain ⟨lo, hlo⟩ : ∃ lo, lo = (hs.getD c (0, 0)).1 := ⟨_, rfl⟩
          obtain ⟨up, hup⟩ : ∃ up, up = (hs.getD c (0, 0)).2 := ⟨_, rfl⟩
          obtain ⟨x, hx⟩ : ∃ x, x = maxL (losOf hs (xs.take k)) 0 := ⟨_, rfl⟩
          obtain ⟨y, hy⟩ : ∃ y, y = maxL (hisOf hs (xs.take k)) 0 := ⟨_, rfl⟩
          have HXS : Hid (maxL (losOf hs (xs.take (k + 1))) 0 = max x lo ∧ maxL (hisOf hs (xs.take (k + 1))) 0 = max y up) := Lib.hid ⟨by rw [los_snoc _ _ hlt, hc, hx, hlo]; rfl, by rw [his_snoc _ _ hlt, hc, hy, hup]; rfl⟩
          have HCK : Hid (∀ W, Below w.heap.size w W → W.cell? ⟨cb, coff + k, none⟩ = some (.int .i64 c) ∧ W.cell? ⟨bh, hoff + c * 2, none⟩ = some (.int .i64 lo) ∧ W.cell? ⟨bh, hoff + c * 2 + 1, none⟩ = some (.int .i64 up)) := Lib.hid (fun W hbW => by
            have h1 := HCC.out k hlt W hbW
            rw [hc] at h1
            have h2 := HHC.out c hcl W hbW
            rw [← hlo, ← hup] at h2
            exact ⟨h1, h2⟩)
          rw [← hx, ← hy] at HLL
          have HC_ := Lib.hid hc
          clear hlo hup hx hy L hc
          by_cases hk0 : k = 0
          · have d0 : decide ((0 : Int) < (k : Int)) = false := by simpa using hk0
            have d0' : decide (0 < k) = false := by simpa using hk0
            have HP2 : Hid (∀ j, j + 1 < k + 1 → xs.getD j 0 ∈ nbrL m ss.length (xs.getD (j + 1) 0).toNat) := Lib.hid (fun j hj => by omega)
            clear hk0
            go_wp2_with fail
            go_quiet (fail)
            have HLW := Lib.hid (HLL.out.below (below_drewN (Below.refl _ wr) nq))
            go_wp2_with fail
            generalize wr.drewN nq = w6 at HLW ⊢
            clear HLL d0 d0'
            obtain ⟨qa, qb, qc⟩ := HCK.out _ HLW.out.be
            have g0 := HLW.out.g0.1
            have g1 := HLW.out.g0.2
            have hC : (fun W => W.cell? ⟨ps, 0, none⟩ = some (.int .i64 x) ∧ W.cell? ⟨w.heap.size, 1, none⟩ = some (.slice (some ⟨bh, hoff, none⟩) hs.length hcap) ∧ W.cell? ⟨cb, coff + k, none⟩ = some (.int .i64 c) ∧ W.cell? ⟨bh, hoff + c * 2, none⟩ = some (.int .i64 lo)) w6.drew := ⟨HLW.out.s0.1, HLW.out.f1, qa, qb⟩
            clear qa qb qc
            refine Lim.regC' (fun W => W.cell? ⟨ps, 0, none⟩ = some (.int .i64 x) ∧ W.cell? ⟨w.heap.size, 1, none⟩ = some (.slice (some ⟨bh, hoff, none⟩) hs.length hcap) ∧ W.cell? ⟨cb, coff + k, none⟩ = some (.int .i64 c) ∧ W.cell? ⟨bh, hoff + c * 2, none⟩ = some (.int .i64 lo)) [13] #[false, false, false, false, false, false, false, false, false, false, false, false, false, false] (by kernel_rfl) rfl ?_
            refine Lim.stepR 0 (fun _ => trivial) rfl (by kernel_rfl) (fun _ _ _ _ h => h) hC rfl ?_; apply Exists.intro; refine ⟨?_, ?_⟩
            · rintro w ⟨r1, r2, r3, r4⟩; go_simp; try with_reducible rfl
            simp only [Act.put, List.setIfInBounds_toArray, List.set_cons_succ, List.set_cons_zero]
            refine Lim.stepR 1 (fun _ => trivial) rfl (by kernel_rfl) (fun _ _ _ _ h => h) hC rfl ?_; apply Exists.intro; refine ⟨?_, ?_⟩
            · rintro w ⟨r1, r2, r3, r4⟩; go_simp; try with_reducible rfl
            simp only [Act.put, List.setIfInBounds_toArray, List.set_cons_succ, List.set_cons_zero]
            refine Lim.stepR 2 (fun _ => trivial) rfl (by kernel_rfl) (fun _ _ _ _ h => h) hC rfl ?_; apply Exists.intro; refine ⟨?_, ?_⟩
            · rintro w ⟨r1, r2, r3, r4⟩; go_simp; try with_reducible rfl
            simp only [Act.put, List.setIfInBounds_toArray, List.set_cons_succ, List.set_cons_zero]
            refine Lim.stepR 3 (fun _ => trivial) rfl (by kernel_rfl) (fun _ _ _ _ h => h) hC rfl ?_; apply Exists.intro; refine ⟨?_, ?_⟩
            · rintro w ⟨r1, r2, r3, r4⟩; go_simp; try with_reducible rfl
            simp only [Act.put, List.setIfInBounds_toArray, List.set_cons_succ, List.set_cons_zero]
            refine Lim.stepR 4 (fun _ => trivial) rfl (by kernel_rfl) (fun _ _ _ _ h => h) hC rfl ?_; apply Exists.intro; refine ⟨?_, ?_⟩
            · rintro w ⟨r1, r2, r3, r4⟩; go_simp; try with_reducible rfl
            simp only [Act.put, List.setIfInBounds_toArray, List.set_cons_succ, List.set_cons_zero]
            refine Lim.stepR 5 (fun _ => trivial) rfl (by kernel_rfl) (fun _ _ _ _ h => h) hC rfl ?_; apply Exists.intro; refine ⟨?_, ?_⟩
            · rintro w ⟨r1, r2, r3, r4⟩; go_simp; try with_reducible rfl
            simp only [Act.put, List.setIfInBounds_toArray, List.set_cons_succ, List.set_cons_zero]
            refine Lim.stepR 6 (fun _ => trivial) rfl (by kernel_rfl) (fun _ _ _ _ h => h) hC rfl ?_; apply Exists.intro; refine ⟨?_, ?_⟩
            · rintro w ⟨r1, r2, r3, r4⟩; go_simp; try with_reducible rfl
            simp only [Act.put, List.setIfInBounds_toArray, List.set_cons_succ, List.set_cons_zero]
            refine Lim.stepR 7 (fun _ => trivial) rfl (by kernel_rfl) (fun _ _ _ _ h => h) hC rfl ?_; apply Exists.intro; refine ⟨?_, ?_⟩
            · rintro w ⟨r1, r2, r3, r4⟩; go_simp; try with_reducible rfl
            simp only [Act.put, List.setIfInBounds_toArray, List.set_cons_succ, List.set_cons_zero]
            refine Lim.stepR 8 (fun _ => trivial) rfl (by kernel_rfl) (fun _ _ _ _ h => h) hC rfl ?_; apply Exists.intro; refine ⟨?_, ?_⟩
            · rintro w ⟨r1, r2, r3, r4⟩; go_simp; try with_reducible rfl
            simp only [Act.put, List.setIfInBounds_toArray, List.set_cons_succ, List.set_cons_zero]
            refine Lim.stepR 9 (fun _ => trivial) rfl (by kernel_rfl) (fun _ _ _ _ h => h) hC rfl ?_; apply Exists.intro; refine ⟨?_, ?_⟩
            · rintro w ⟨r1, r2, r3, r4⟩; go_simp; try with_reducible rfl
            simp only [Act.put, List.setIfInBounds_toArray, List.set_cons_succ, List.set_cons_zero]
            refine Lim.stepR 10 (fun _ => trivial) rfl (by kernel_rfl) (fun _ _ _ _ h => h) hC rfl ?_; apply Exists.intro; refine ⟨?_, ?_⟩
            · rintro w ⟨r1, r2, r3, r4⟩; go_simp; try with_reducible rfl
            simp only [Act.put, List.setIfInBounds_toArray, List.set_cons_succ, List.set_cons_zero]
            refine Lim.stepR 11 (fun _ => trivial) rfl (by kernel_rfl) (fun _ _ _ _ h => h) hC rfl ?_; apply Exists.intro; refine ⟨?_, ?_⟩
            · rintro w ⟨r1, r2, r3, r4⟩; go_simp; try with_reducible rfl
            simp only [Act.put, List.setIfInBounds_toArray, List.set_cons_succ, List.set_cons_zero]
            refine Lim.stepR 12 (fun _ => trivial) rfl (by kernel_rfl) (fun _ _ _ _ h => h) hC rfl ?_; apply Exists.intro; refine ⟨?_, ?_⟩
            · rintro w ⟨r1, r2, r3, r4⟩; go_simp; try with_reducible rfl
            simp only [Act.put, List.setIfInBounds_toArray, List.set_cons_succ, List.set_cons_zero]
            refine Lim.stepX 13 (fun _ => trivial) rfl (by kernel_rfl) rfl rfl (fun K hK => ?_)
            go_simp
            refine hK _ _ ?_
            refine Lim.segC (fun _ => True) [] (Lim.stepD (by kernel_rfl) ?_)
            have HA := Lib.hid ((HLW.out.set0 (Nat.ne_of_lt HZ3.out) (max x lo)).below (Below.refl _ _).drew)
            clear hC HLW
            go_wp2_with fail
            generalize (w6.setCell ⟨ps, 0, none⟩ (.int .i64 (max x lo))).drew = w7 at HA g1 ⊢
            obtain ⟨qa, qb, qc⟩ := HCK.out _ HA.out.be
            replace g1 := HA.out.g0.2
            have hC : (fun W => W.cell? ⟨ps, 1, none⟩ = some (.int .i64 y) ∧ W.cell? ⟨w.heap.size, 1, none⟩ = some (.slice (some ⟨bh, hoff, none⟩) hs.length hcap) ∧ W.cell? ⟨cb, coff + k, none⟩ = some (.int .i64 c) ∧ W.cell? ⟨bh, hoff + c * 2 + 1, none⟩ = some (.int .i64 up)) w7.drew := ⟨HA.out.s0.2, HA.out.f1, qa, qc⟩
            clear qa qb qc g0
            refine Lim.regC' (fun W => W.cell? ⟨ps, 1, none⟩ = some (.int .i64 y) ∧ W.cell? ⟨w.heap.size, 1, none⟩ = some (.slice (some ⟨bh, hoff, none⟩) hs.length hcap) ∧ W.cell? ⟨cb, coff + k, none⟩ = some (.int .i64 c) ∧ W.cell? ⟨bh, hoff + c * 2 + 1, none⟩ = some (.int .i64 up)) [13] #[false, false, false, false, false, false, false, false, false, false, false, false, false, false] (by kernel_rfl) rfl ?_
            refine Lim.stepR 0 (fun _ => trivial) rfl (by kernel_rfl) (fun _ _ _ _ h => h) hC rfl ?_; apply Exists.intro; refine ⟨?_, ?_⟩
            · rintro w ⟨r1, r2, r3, r4⟩; go_simp; try with_reducible rfl
            simp only [Act.put, List.setIfInBounds_toArray, List.set_cons_succ, List.set_cons_zero]
            refine Lim.stepR 1 (fun _ => trivial) rfl (by kernel_rfl) (fun _ _ _ _ h => h) hC rfl ?_; apply Exists.intro; refine ⟨?_, ?_⟩
            · rintro w ⟨r1, r2, r3, r4⟩; go_simp; try with_reducible rfl
            simp only [Act.put, List.setIfInBounds_toArray, List.set_cons_succ, List.set_cons_zero]
            refine Lim.stepR 2 (fun _ => trivial) rfl (by kernel_rfl) (fun _ _ _ _ h => h) hC rfl ?_; apply Exists.intro; refine ⟨?_, ?_⟩
            · rintro w ⟨r1, r2, r3, r4⟩; go_simp; try with_reducible rfl
            simp only [Act.put, List.setIfInBounds_toArray, List.set_cons_succ, List.set_cons_zero]
            refine Lim.stepR 3 (fun _ => trivial) rfl (by kernel_rfl) (fun _ _ _ _ h => h) hC rfl ?_; apply Exists.intro; refine ⟨?_, ?_⟩
            · rintro w ⟨r1, r2, r3, r4⟩; go_simp; try with_reducible rfl
            simp only [Act.put, List.setIfInBounds_toArray, List.set_cons_succ, List.set_cons_zero]
            refine Lim.stepR 4 (fun _ => trivial) rfl (by kernel_rfl) (fun _ _ _ _ h => h) hC rfl ?_; apply Exists.intro; refine ⟨?_, ?_⟩
            · rintro w ⟨r1, r2, r3, r4⟩; go_simp; try with_reducible rfl
            simp only [Act.put, List.setIfInBounds_toArray, List.set_cons_succ, List.set_cons_zero]
            refine Lim.stepR 5 (fun _ => trivial) rfl (by kernel_rfl) (fun _ _ _ _ h => h) hC rfl ?_; apply Exists.intro; refine ⟨?_, ?_⟩
            · rintro w ⟨r1, r2, r3, r4⟩; go_simp; try with_reducible rfl
            simp only [Act.put, List.setIfInBounds_toArray, List.set_cons_succ, List.set_cons_zero]
            refine Lim.stepR 6 (fun _ => trivial) rfl (by kernel_rfl) (fun _ _ _ _ h => h) hC rfl ?_; apply Exists.intro; refine ⟨?_, ?_⟩
            · rintro w ⟨r1, r2, r3, r4⟩; go_simp; try with_reducible rfl
            simp only [Act.put, List.setIfInBounds_toArray, List.set_cons_succ, List.set_cons_zero]
            refine Lim.stepR 7 (fun _ => trivial) rfl (by kernel_rfl) (fun _ _ _ _ h => h) hC rfl ?_; apply Exists.intro; refine ⟨?_, ?_⟩
            · rintro w ⟨r1, r2, r3, r4⟩; go_simp; try with_reducible rfl
            simp only [Act.put, List.setIfInBounds_toArray, List.set_cons_succ, List.set_cons_zero]
            refine Lim.stepR 8 (fun _ => trivial) rfl (by kernel_rfl) (fun _ _ _ _ h => h) hC rfl ?_; apply Exists.intro; refine ⟨?_, ?_⟩
            · rintro w ⟨r1, r2, r3, r4⟩; go_simp; try with_reducible rfl
            simp only [Act.put, List.setIfInBounds_toArray, List.set_cons_succ, List.set_cons_zero]
            refine Lim.stepR 9 (fun _ => trivial) rfl (by kernel_rfl) (fun _ _ _ _ h => h) hC rfl ?_; apply Exists.intro; refine ⟨?_, ?_⟩
            · rintro w ⟨r1, r2, r3, r4⟩; go_simp; try with_reducible rfl
            simp only [Act.put, List.setIfInBounds_toArray, List.set_cons_succ, List.set_cons_zero]
            refine Lim.stepR 10 (fun _ => trivial) rfl (by kernel_rfl) (fun _ _ _ _ h => h) hC rfl ?_; apply Exists.intro; refine ⟨?_, ?_⟩
            · rintro w ⟨r1, r2, r3, r4⟩; go_simp; try with_reducible rfl
            simp only [Act.put, List.setIfInBounds_toArray, List.set_cons_succ, List.set_cons_zero]
            refine Lim.stepR 11 (fun _ => trivial) rfl (by kernel_rfl) (fun _ _ _ _ h => h) hC rfl ?_; apply Exists.intro; refine ⟨?_, ?_⟩
            · rintro w ⟨r1, r2, r3, r4⟩; go_simp; try with_reducible rfl
            simp only [Act.put, List.setIfInBounds_toArray, List.set_cons_succ, List.set_cons_zero]
            refine Lim.stepR 12 (fun _ => trivial) rfl (by kernel_rfl) (fun _ _ _ _ h => h) hC rfl ?_; apply Exists.intro; refine ⟨?_, ?_⟩
            · rintro w ⟨r1, r2, r3, r4⟩; go_simp; try with_reducible rfl
            simp only [Act.put, List.setIfInBounds_toArray, List.set_cons_succ, List.set_cons_zero]
            refine Lim.stepX 13 (fun _ => trivial) rfl (by kernel_rfl) rfl rfl (fun K hK => ?_)
            go_simp
            refine hK _ _ ?_
            refine Lim.segC (fun _ => True) [] (Lim.stepD (by kernel_rfl) ?_)
            have HB_ := Lib.hid ((HA.out.set1 (Nat.ne_of_lt HZ3.out) (max y up)).below (Below.refl _ _).drew)
            clear hC HA
            go_wp2
            go_roundw
            case rel => exact ⟨k + 1, by omega, by go_num, by rw [HXS.out.1, HXS.out.2]; exact HB_.out, HP2⟩
            case measure => simp [intOf]; omega
          · have d0 : decide ((0 : Int) < (k : Int)) = true := by simp; omega
            have d0' : decide (0 < k) = true := by simp; omega
            have hk1 : k - 1 < xs.length := by omega
            have e2 : IntKind.i64.wrap ((k : Int) - 1) = ((k - 1 : Nat) : Int) := by rw [IntWalk.i64_in _ (by omega)]; omega
            obtain ⟨j, hj, hjn⟩ := on_land HL.out HLD.out hk1
            have q0 : wr.cell? ⟨cb, coff + (k - 1), none⟩ = some (.int .i64 j) := by have := HCC.out (k - 1) hk1 _ HLL.out.be; rw [hj] at this; exact this
            have q1 : wr.cell? ⟨cb, coff + k, none⟩ = some (.int .i64 c) := (HCK.out _ HLL.out.be).1
            have HNB : Hid (bes m j c = true ↔ xs.getD (k - 1) 0 ∈ nbrL m ss.length (xs.getD (k - 1 + 1) 0).toNat) := Lib.hid (by
              rw [bes_comm, bes_iff HOK.out.w0 HOK.out.dv hcn hjn, show k - 1 + 1 = k from by omega, hj, HC_.out]; rfl)
            have HCB := Lib.hid (beside_any m j c (.slice (some ⟨bh, hoff, none⟩) hs.length hcap) (.slice (some ⟨sb, soff, none⟩) ss.length scap) wr.drew ⟨HOK.out.w0, HOK.out.w1⟩ (by omega) (by omega))
            have hC : (fun W => W.cell? ⟨w.heap.size, 0, none⟩ = some (.int .i64 m) ∧ W.cell? ⟨w.heap.size, 1, none⟩ = some (.slice (some ⟨bh, hoff, none⟩) hs.length hcap) ∧ W.cell? ⟨w.heap.size, 2, none⟩ = some (.slice (some ⟨sb, soff, none⟩) ss.length scap) ∧ W.cell? ⟨cb, coff + (k - 1), none⟩ = some (.int .i64 j) ∧ W.cell? ⟨cb, coff + k, none⟩ = some (.int .i64 c)) wr.drew := ⟨HLL.out.f0, HLL.out.f1, HLL.out.f2, q0, q1⟩
            have HKP : Hid (0 < k) := Lib.hid (by omega)
            clear hj hk0
            cases hbs : bes m j c with
            | false =>
              have HNI : Hid (¬ isCross ⟨m, hs, ss⟩ xs) := Lib.hid (fun h => by have := HNB.out.2 (HI2.out.2 h (k - 1) (by have := HKP.out; omega)); rw [hbs] at this; cases this)
              rw [hbs] at HCB
              clear hbs
              go_wp2_with fail
              refine Lim.regC' (fun W => W.cell? ⟨w.heap.size, 0, none⟩ = some (.int .i64 m) ∧ W.cell? ⟨w.heap.size, 1, none⟩ = some (.slice (some ⟨bh, hoff, none⟩) hs.length hcap) ∧ W.cell? ⟨w.heap.size, 2, none⟩ = some (.slice (some ⟨sb, soff, none⟩) ss.length scap) ∧ W.cell? ⟨cb, coff + (k - 1), none⟩ = some (.int .i64 j) ∧ W.cell? ⟨cb, coff + k, none⟩ = some (.int .i64 c)) [] #[false, false, false, false, false, false, false, false, false, false, false, false, false, false, false, false] (by kernel_rfl) rfl ?_
              refine Lim.stepR 0 (fun _ => trivial) rfl (by kernel_rfl) (fun _ _ _ _ h => h) hC rfl ?_; apply Exists.intro; refine ⟨?_, ?_⟩
              · rintro w ⟨r1, r2, r3, r4, r5⟩; go_simp; try with_reducible rfl
              simp only [Act.put, List.setIfInBounds_toArray, List.set_cons_succ, List.set_cons_zero]
              refine Lim.stepR 1 (fun _ => trivial) rfl (by kernel_rfl) (fun _ _ _ _ h => h) hC rfl ?_; apply Exists.intro; refine ⟨?_, ?_⟩
              · rintro w ⟨r1, r2, r3, r4, r5⟩; go_simp; try with_reducible rfl
              simp only [Act.put, List.setIfInBounds_toArray, List.set_cons_succ, List.set_cons_zero]
              refine Lim.stepR 2 (fun _ => trivial) rfl (by kernel_rfl) (fun _ _ _ _ h => h) hC rfl ?_; apply Exists.intro; refine ⟨?_, ?_⟩
              · rintro w ⟨r1, r2, r3, r4, r5⟩; go_simp; try with_reducible rfl
              simp only [Act.put, List.setIfInBounds_toArray, List.set_cons_succ, List.set_cons_zero]
              refine Lim.stepR 3 (fun _ => trivial) rfl (by kernel_rfl) (fun _ _ _ _ h => h) hC rfl ?_; apply Exists.intro; refine ⟨?_, ?_⟩
              · rintro w ⟨r1, r2, r3, r4, r5⟩; go_simp; try with_reducible rfl
              simp only [Act.put, List.setIfInBounds_toArray, List.set_cons_succ, List.set_cons_zero]
              refine Lim.stepR 4 (fun _ => trivial) rfl (by kernel_rfl) (fun _ _ _ _ h => h) hC rfl ?_; apply Exists.intro; refine ⟨?_, ?_⟩
              · rintro w ⟨r1, r2, r3, r4, r5⟩; go_simp; try with_reducible rfl
              simp only [Act.put, List.setIfInBounds_toArray, List.set_cons_succ, List.set_cons_zero]
              refine Lim.stepR 5 (fun _ => trivial) rfl (by kernel_rfl) (fun _ _ _ _ h => h) hC rfl ?_; apply Exists.intro; refine ⟨?_, ?_⟩
              · rintro w ⟨r1, r2, r3, r4, r5⟩; go_simp; try with_reducible rfl
              simp only [Act.put, List.setIfInBounds_toArray, List.set_cons_succ, List.set_cons_zero]
              refine Lim.stepR 6 (fun _ => trivial) rfl (by kernel_rfl) (fun _ _ _ _ h => h) hC rfl ?_; apply Exists.intro; refine ⟨?_, ?_⟩
              · rintro w ⟨r1, r2, r3, r4, r5⟩; go_simp; try with_reducible rfl
              simp only [Act.put, List.setIfInBounds_toArray, List.set_cons_succ, List.set_cons_zero]
              refine Lim.stepR 7 (fun _ => trivial) rfl (by kernel_rfl) (fun _ _ _ _ h => h) hC rfl ?_; apply Exists.intro; refine ⟨?_, ?_⟩
              · rintro w ⟨r1, r2, r3, r4, r5⟩; go_simp; try with_reducible rfl
              simp only [Act.put, List.setIfInBounds_toArray, List.set_cons_succ, List.set_cons_zero]
              refine Lim.stepR 8 (fun _ => trivial) rfl (by kernel_rfl) (fun _ _ _ _ h => h) hC rfl ?_; apply Exists.intro; refine ⟨?_, ?_⟩
              · rintro w ⟨r1, r2, r3, r4, r5⟩; go_simp; try with_reducible rfl
              simp only [Act.put, List.setIfInBounds_toArray, List.set_cons_succ, List.set_cons_zero]
              refine Lim.stepR 9 (fun _ => trivial) rfl (by kernel_rfl) (fun _ _ _ _ h => h) hC rfl ?_; apply Exists.intro; refine ⟨?_, ?_⟩
              · rintro w ⟨r1, r2, r3, r4, r5⟩; go_simp; try with_reducible rfl
              simp only [Act.put, List.setIfInBounds_toArray, List.set_cons_succ, List.set_cons_zero]
              refine Lim.stepR 10 (fun _ => trivial) rfl (by kernel_rfl) (fun _ _ _ _ h => h) hC rfl ?_; apply Exists.intro; refine ⟨?_, ?_⟩
              · rintro w ⟨r1, r2, r3, r4, r5⟩; go_simp; try with_reducible rfl
              simp only [Act.put, List.setIfInBounds_toArray, List.set_cons_succ, List.set_cons_zero]
              refine Lim.stepR 11 (fun _ => trivial) rfl (by kernel_rfl) (fun _ _ _ _ h => h) hC rfl ?_; apply Exists.intro; refine ⟨?_, ?_⟩
              · rintro w ⟨r1, r2, r3, r4, r5⟩; go_simp; try with_reducible rfl
              simp only [Act.put, List.setIfInBounds_toArray, List.set_cons_succ, List.set_cons_zero]
              refine Lim.stepR 12 (fun _ => trivial) rfl (by kernel_rfl) (fun _ _ _ _ h => h) hC rfl ?_; apply Exists.intro; refine ⟨?_, ?_⟩
              · rintro w ⟨r1, r2, r3, r4, r5⟩; go_simp; try with_reducible rfl
              simp only [Act.put, List.setIfInBounds_toArray, List.set_cons_succ, List.set_cons_zero]
              refine Lim.stepE 13 (fun _ => trivial) rfl (by kernel_rfl) rfl (fun K hK => ?_)   -- E call
              go_simp
              refine ⟨rfl, (callsIn_wide.2 HCB.out).mono ?_⟩
              rintro e w4 ⟨rfl, hb⟩
              have L4 := HLL.out.below (drewL hb)
              have q0' := cell_on (drewL hb) q0
              have q1' := cell_on (drewL hb) q1
              have hC4 : (fun W => W.cell? ⟨w.heap.size, 0, none⟩ = some (.int .i64 m) ∧ W.cell? ⟨w.heap.size, 1, none⟩ = some (.slice (some ⟨bh, hoff, none⟩) hs.length hcap) ∧ W.cell? ⟨w.heap.size, 2, none⟩ = some (.slice (some ⟨sb, soff, none⟩) ss.length scap) ∧ W.cell? ⟨cb, coff + (k - 1), none⟩ = some (.int .i64 j) ∧ W.cell? ⟨cb, coff + k, none⟩ = some (.int .i64 c)) w4 := ⟨L4.f0, L4.f1, L4.f2, q0', q1'⟩
              have HL4 := Lib.hid L4
              clear L4
              refine hK _ _ hC4 ?_
              simp only [Act.put, List.setIfInBounds_toArray, List.set_cons_succ, List.set_cons_zero]
              refine Lim.stepR 14 (fun _ => trivial) rfl (by kernel_rfl) (fun _ _ _ _ h => h) hC4 rfl ?_; apply Exists.intro; refine ⟨?_, ?_⟩
              · rintro w ⟨r1, r2, r3, r4, r5⟩; go_simp; try with_reducible rfl
              simp only [Act.put, List.setIfInBounds_toArray, List.set_cons_succ, List.set_cons_zero]
              refine Lim.stepR 15 (fun _ => trivial) rfl (by kernel_rfl) (fun _ _ _ _ h => h) hC4 rfl ?_; apply Exists.intro; refine ⟨?_, ?_⟩
              · rintro w ⟨r1, r2, r3, r4, r5⟩; go_simp; try with_reducible rfl
              simp only [Act.put, List.setIfInBounds_toArray, List.set_cons_succ, List.set_cons_zero]
              refine Lim.stepD (by kernel_rfl) ?_
              obtain ⟨s0, s1⟩ := HL4.out.z0
              obtain ⟨y0, y1⟩ := HL4.out.y0
              go_wp2
              obtain ⟨u0, u1⟩ := span_set (.int .i64 0) (.int .i64 0) s0 s1
              refine bodyPost_ret (v := .tuple #[.agg #[.int .i64 0, .int .i64 0], .int .i64 9]) ?_ rfl ?_
              · exact results_ct (p := 4) (u := 5) (ty := 54) rfl _ _ (w.heap.size + 1) _ rfl (load_span u0 u1)
              · exact ⟨0, 0, 9, rfl, (HL4.out.be.setCell (p := ⟨w.heap.size + 1, 0, none⟩) (Nat.le_succ _) _).setCell (p := ⟨w.heap.size + 1, 1, none⟩) (Nat.le_succ _) _, .inr (.inl ⟨HE.out, HNI.out, rfl, rfl, rfl⟩)⟩
            | true =>
              have HP2 : Hid (∀ j, j + 1 < k + 1 → xs.getD j 0 ∈ nbrL m ss.length (xs.getD (j + 1) 0).toNat) := Lib.hid (fun i hi => by
                by_cases e : i = k - 1
                · subst e; exact HNB.out.1 hbs
                · exact hP.out i (by omega))
              rw [hbs] at HCB
              clear hbs
              go_wp2_with fail
              refine Lim.regC' (fun W => W.cell? ⟨w.heap.size, 0, none⟩ = some (.int .i64 m) ∧ W.cell? ⟨w.heap.size, 1, none⟩ = some (.slice (some ⟨bh, hoff, none⟩) hs.length hcap) ∧ W.cell? ⟨w.heap.size, 2, none⟩ = some (.slice (some ⟨sb, soff, none⟩) ss.length scap) ∧ W.cell? ⟨cb, coff + (k - 1), none⟩ = some (.int .i64 j) ∧ W.cell? ⟨cb, coff + k, none⟩ = some (.int .i64 c)) [] #[false, false, false, false, false, false, false, false, false, false, false, false, false, false, false, false] (by kernel_rfl) rfl ?_
              refine Lim.stepR 0 (fun _ => trivial) rfl (by kernel_rfl) (fun _ _ _ _ h => h) hC rfl ?_; apply Exists.intro; refine ⟨?_, ?_⟩
              · rintro w ⟨r1, r2, r3, r4, r5⟩; go_simp; try with_reducible rfl
              simp only [Act.put, List.setIfInBounds_toArray, List.set_cons_succ, List.set_cons_zero]
              refine Lim.stepR 1 (fun _ => trivial) rfl (by kernel_rfl) (fun _ _ _ _ h => h) hC rfl ?_; apply Exists.intro; refine ⟨?_, ?_⟩
              · rintro w ⟨r1, r2, r3, r4, r5⟩; go_simp; try with_reducible rfl
              simp only [Act.put, List.setIfInBounds_toArray, List.set_cons_succ, List.set_cons_zero]
              refine Lim.stepR 2 (fun _ => trivial) rfl (by kernel_rfl) (fun _ _ _ _ h => h) hC rfl ?_; apply Exists.intro; refine ⟨?_, ?_⟩
              · rintro w ⟨r1, r2, r3, r4, r5⟩; go_simp; try with_reducible rfl
              simp only [Act.put, List.setIfInBounds_toArray, List.set_cons_succ, List.set_cons_zero]
              refine Lim.stepR 3 (fun _ => trivial) rfl (by kernel_rfl) (fun _ _ _ _ h => h) hC rfl ?_; apply Exists.intro; refine ⟨?_, ?_⟩
              · rintro w ⟨r1, r2, r3, r4, r5⟩; go_simp; try with_reducible rfl
              simp only [Act.put, List.setIfInBounds_toArray, List.set_cons_succ, List.set_cons_zero]
              refine Lim.stepR 4 (fun _ => trivial) rfl (by kernel_rfl) (fun _ _ _ _ h => h) hC rfl ?_; apply Exists.intro; refine ⟨?_, ?_⟩
              · rintro w ⟨r1, r2, r3, r4, r5⟩; go_simp; try with_reducible rfl
              simp only [Act.put, List.setIfInBounds_toArray, List.set_cons_succ, List.set_cons_zero]
              refine Lim.stepR 5 (fun _ => trivial) rfl (by kernel_rfl) (fun _ _ _ _ h => h) hC rfl ?_; apply Exists.intro; refine ⟨?_, ?_⟩
              · rintro w ⟨r1, r2, r3, r4, r5⟩; go_simp; try with_reducible rfl
              simp only [Act.put, List.setIfInBounds_toArray, List.set_cons_succ, List.set_cons_zero]
              refine Lim.stepR 6 (fun _ => trivial) rfl (by kernel_rfl) (fun _ _ _ _ h => h) hC rfl ?_; apply Exists.intro; refine ⟨?_, ?_⟩
              · rintro w ⟨r1, r2, r3, r4, r5⟩; go_simp; try with_reducible rfl
              simp only [Act.put, List.setIfInBounds_toArray, List.set_cons_succ, List.set_cons_zero]
              refine Lim.stepR 7 (fun _ => trivial) rfl (by kernel_rfl) (fun _ _ _ _ h => h) hC rfl ?_; apply Exists.intro; refine ⟨?_, ?_⟩
              · rintro w ⟨r1, r2, r3, r4, r5⟩; go_simp; try with_reducible rfl
              simp only [Act.put, List.setIfInBounds_toArray, List.set_cons_succ, List.set_cons_zero]
              refine Lim.stepR 8 (fun _ => trivial) rfl (by kernel_rfl) (fun _ _ _ _ h => h) hC rfl ?_; apply Exists.intro; refine ⟨?_, ?_⟩
              · rintro w ⟨r1, r2, r3, r4, r5⟩; go_simp; try with_reducible rfl
              simp only [Act.put, List.setIfInBounds_toArray, List.set_cons_succ, List.set_cons_zero]
              refine Lim.stepR 9 (fun _ => trivial) rfl (by kernel_rfl) (fun _ _ _ _ h => h) hC rfl ?_; apply Exists.intro; refine ⟨?_, ?_⟩
              · rintro w ⟨r1, r2, r3, r4, r5⟩; go_simp; try with_reducible rfl
              simp only [Act.put, List.setIfInBounds_toArray, List.set_cons_succ, List.set_cons_zero]
              refine Lim.stepR 10 (fun _ => trivial) rfl (by kernel_rfl) (fun _ _ _ _ h => h) hC rfl ?_; apply Exists.intro; refine ⟨?_, ?_⟩
              · rintro w ⟨r1, r2, r3, r4, r5⟩; go_simp; try with_reducible rfl
              simp only [Act.put, List.setIfInBounds_toArray, List.set_cons_succ, List.set_cons_zero]
              refine Lim.stepR 11 (fun _ => trivial) rfl (by kernel_rfl) (fun _ _ _ _ h => h) hC rfl ?_; apply Exists.intro; refine ⟨?_, ?_⟩
              · rintro w ⟨r1, r2, r3, r4, r5⟩; go_simp; try with_reducible rfl
              simp only [Act.put, List.setIfInBounds_toArray, List.set_cons_succ, List.set_cons_zero]
              refine Lim.stepR 12 (fun _ => trivial) rfl (by kernel_rfl) (fun _ _ _ _ h => h) hC rfl ?_; apply Exists.intro; refine ⟨?_, ?_⟩
              · rintro w ⟨r1, r2, r3, r4, r5⟩; go_simp; try with_reducible rfl
              simp only [Act.put, List.setIfInBounds_toArray, List.set_cons_succ, List.set_cons_zero]
              refine Lim.stepE 13 (fun _ => trivial) rfl (by kernel_rfl) rfl (fun K hK => ?_)   -- E call
              go_simp
              refine ⟨rfl, (callsIn_wide.2 HCB.out).mono ?_⟩
              rintro e w4 ⟨rfl, hb⟩
              have L4 := HLL.out.below (drewL hb)
              have q0' := cell_on (drewL hb) q0
              have q1' := cell_on (drewL hb) q1
              have hC4 : (fun W => W.cell? ⟨w.heap.size, 0, none⟩ = some (.int .i64 m) ∧ W.cell? ⟨w.heap.size, 1, none⟩ = some (.slice (some ⟨bh, hoff, none⟩) hs.length hcap) ∧ W.cell? ⟨w.heap.size, 2, none⟩ = some (.slice (some ⟨sb, soff, none⟩) ss.length scap) ∧ W.cell? ⟨cb, coff + (k - 1), none⟩ = some (.int .i64 j) ∧ W.cell? ⟨cb, coff + k, none⟩ = some (.int .i64 c)) w4 := ⟨L4.f0, L4.f1, L4.f2, q0', q1'⟩
              have HL4 := Lib.hid L4
              clear L4
              refine hK _ _ hC4 ?_
              simp only [Act.put, List.setIfInBounds_toArray, List.set_cons_succ, List.set_cons_zero]
              refine Lim.stepR 14 (fun _ => trivial) rfl (by kernel_rfl) (fun _ _ _ _ h => h) hC4 rfl ?_; apply Exists.intro; refine ⟨?_, ?_⟩
              · rintro w ⟨r1, r2, r3, r4, r5⟩; go_simp; try with_reducible rfl
              simp only [Act.put, List.setIfInBounds_toArray, List.set_cons_succ, List.set_cons_zero]
              refine Lim.stepR 15 (fun _ => trivial) rfl (by kernel_rfl) (fun _ _ _ _ h => h) hC4 rfl ?_; apply Exists.intro; refine ⟨?_, ?_⟩
              · rintro w ⟨r1, r2, r3, r4, r5⟩; go_simp; try with_reducible rfl
              simp only [Act.put, List.setIfInBounds_toArray, List.set_cons_succ, List.set_cons_zero]
              refine Lim.stepD (by kernel_rfl) ?_
              have HLW := HL4
              clear HLL HL4 hC hC4 q0 q1 q0' q1' d0 d0' hb HCB HNB e2 hk1
              go_wp2_with fail
              generalize w4 = w6 at HLW ⊢
              obtain ⟨qa, qb, qc⟩ := HCK.out _ HLW.out.be
              have g0 := HLW.out.g0.1
              have g1 := HLW.out.g0.2
              have hC : (fun W => W.cell? ⟨ps, 0, none⟩ = some (.int .i64 x) ∧ W.cell? ⟨w.heap.size, 1, none⟩ = some (.slice (some ⟨bh, hoff, none⟩) hs.length hcap) ∧ W.cell? ⟨cb, coff + k, none⟩ = some (.int .i64 c) ∧ W.cell? ⟨bh, hoff + c * 2, none⟩ = some (.int .i64 lo)) w6.drew := ⟨HLW.out.s0.1, HLW.out.f1, qa, qb⟩
              clear qa qb qc
              refine Lim.regC' (fun W => W.cell? ⟨ps, 0, none⟩ = some (.int .i64 x) ∧ W.cell? ⟨w.heap.size, 1, none⟩ = some (.slice (some ⟨bh, hoff, none⟩) hs.length hcap) ∧ W.cell? ⟨cb, coff + k, none⟩ = some (.int .i64 c) ∧ W.cell? ⟨bh, hoff + c * 2, none⟩ = some (.int .i64 lo)) [13] #[false, false, false, false, false, false, false, false, false, false, false, false, false, false] (by kernel_rfl) rfl ?_
              refine Lim.stepR 0 (fun _ => trivial) rfl (by kernel_rfl) (fun _ _ _ _ h => h) hC rfl ?_; apply Exists.intro; refine ⟨?_, ?_⟩
              · rintro w ⟨r1, r2, r3, r4⟩; go_simp; try with_reducible rfl
              simp only [Act.put, List.setIfInBounds_toArray, List.set_cons_succ, List.set_cons_zero]
              refine Lim.stepR 1 (fun _ => trivial) rfl (by kernel_rfl) (fun _ _ _ _ h => h) hC rfl ?_; apply Exists.intro; refine ⟨?_, ?_⟩
              · rintro w ⟨r1, r2, r3, r4⟩; go_simp; try with_reducible rfl
              simp only [Act.put, List.setIfInBounds_toArray, List.set_cons_succ, List.set_cons_zero]
              refine Lim.stepR 2 (fun _ => trivial) rfl (by kernel_rfl) (fun _ _ _ _ h => h) hC rfl ?_; apply Exists.intro; refine ⟨?_, ?_⟩
              · rintro w ⟨r1, r2, r3, r4⟩; go_simp; try with_reducible rfl
              simp only [Act.put, List.setIfInBounds_toArray, List.set_cons_succ, List.set_cons_zero]
              refine Lim.stepR 3 (fun _ => trivial) rfl (by kernel_rfl) (fun _ _ _ _ h => h) hC rfl ?_; apply Exists.intro; refine ⟨?_, ?_⟩
              · rintro w ⟨r1, r2, r3, r4⟩; go_simp; try with_reducible rfl
              simp only [Act.put, List.setIfInBounds_toArray, List.set_cons_succ, List.set_cons_zero]
              refine Lim.stepR 4 (fun _ => trivial) rfl (by kernel_rfl) (fun _ _ _ _ h => h) hC rfl ?_; apply Exists.intro; refine ⟨?_, ?_⟩
              · rintro w ⟨r1, r2, r3, r4⟩; go_simp; try with_reducible rfl
              simp only [Act.put, List.setIfInBounds_toArray, List.set_cons_succ, List.set_cons_zero]
              refine Lim.stepR 5 (fun _ => trivial) rfl (by kernel_rfl) (fun _ _ _ _ h => h) hC rfl ?_; apply Exists.intro; refine ⟨?_, ?_⟩
              · rintro w ⟨r1, r2, r3, r4⟩; go_simp; try with_reducible rfl
              simp only [Act.put, List.setIfInBounds_toArray, List.set_cons_succ, List.set_cons_zero]
              refine Lim.stepR 6 (fun _ => trivial) rfl (by kernel_rfl) (fun _ _ _ _ h => h) hC rfl ?_; apply Exists.intro; refine ⟨?_, ?_⟩
              · rintro w ⟨r1, r2, r3, r4⟩; go_simp; try with_reducible rfl
              simp only [Act.put, List.setIfInBounds_toArray, List.set_cons_succ, List.set_cons_zero]
              refine Lim.stepR 7 (fun _ => trivial) rfl (by kernel_rfl) (fun _ _ _ _ h => h) hC rfl ?_; apply Exists.intro; refine ⟨?_, ?_⟩
              · rintro w ⟨r1, r2, r3, r4⟩; go_simp; try with_reducible rfl
              simp only [Act.put, List.setIfInBounds_toArray, List.set_cons_succ, List.set_cons_zero]
              refine Lim.stepR 8 (fun _ => trivial) rfl (by kernel_rfl) (fun _ _ _ _ h => h) hC rfl ?_; apply Exists.intro; refine ⟨?_, ?_⟩
              · rintro w ⟨r1, r2, r3, r4⟩; go_simp; try with_reducible rfl
              simp only [Act.put, List.setIfInBounds_toArray, List.set_cons_succ, List.set_cons_zero]
              refine Lim.stepR 9 (fun _ => trivial) rfl (by kernel_rfl) (fun _ _ _ _ h => h) hC rfl ?_; apply Exists.intro; refine ⟨?_, ?_⟩
              · rintro w ⟨r1, r2, r3, r4⟩; go_simp; try with_reducible rfl
              simp only [Act.put, List.setIfInBounds_toArray, List.set_cons_succ, List.set_cons_zero]
              refine Lim.stepR 10 (fun _ => trivial) rfl (by kernel_rfl) (fun _ _ _ _ h => h) hC rfl ?_; apply Exists.intro; refine ⟨?_, ?_⟩
              · rintro w ⟨r1, r2, r3, r4⟩; go_simp; try with_reducible rfl
              simp only [Act.put, List.setIfInBounds_toArray, List.set_cons_succ, List.set_cons_zero]
              refine Lim.stepR 11 (fun _ => trivial) rfl (by kernel_rfl) (fun _ _ _ _ h => h) hC rfl ?_; apply Exists.intro; refine ⟨?_, ?_⟩
              · rintro w ⟨r1, r2, r3, r4⟩; go_simp; try with_reducible rfl
              simp only [Act.put, List.setIfInBounds_toArray, List.set_cons_succ, List.set_cons_zero]
              refine Lim.stepR 12 (fun _ => trivial) rfl (by kernel_rfl) (fun _ _ _ _ h => h) hC rfl ?_; apply Exists.intro; refine ⟨?_, ?_⟩
              · rintro w ⟨r1, r2, r3, r4⟩; go_simp; try with_reducible rfl
              simp only [Act.put, List.setIfInBounds_toArray, List.set_cons_succ, List.set_cons_zero]
              refine Lim.stepX 13 (fun _ => trivial) rfl (by kernel_rfl) rfl rfl (fun K hK => ?_)
              go_simp
              refine hK _ _ ?_
              refine Lim.segC (fun _ => True) [] (Lim.stepD (by kernel_rfl) ?_)
              have HA := Lib.hid ((HLW.out.set0 (Nat.ne_of_lt HZ3.out) (max x lo)).below (Below.refl _ _).drew)
              clear hC HLW
              go_wp2_with fail
              generalize (w6.setCell ⟨ps, 0, none⟩ (.int .i64 (max x lo))).drew = w7 at HA g1 ⊢
              obtain ⟨qa, qb, qc⟩ := HCK.out _ HA.out.be
              replace g1 := HA.out.g0.2
              have hC : (fun W => W.cell? ⟨ps, 1, none⟩ = some (.int .i64 y) ∧ W.cell? ⟨w.heap.size, 1, none⟩ = some (.slice (some ⟨bh, hoff, none⟩) hs.length hcap) ∧ W.cell? ⟨cb, coff + k, none⟩ = some (.int .i64 c) ∧ W.cell? ⟨bh, hoff + c * 2 + 1, none⟩ = some (.int .i64 up)) w7.drew := ⟨HA.out.s0.2, HA.out.f1, qa, qc⟩
              clear qa qb qc g0
              refine Lim.regC' (fun W => W.cell? ⟨ps, 1, none⟩ = some (.int .i64 y) ∧ W.cell? ⟨w.heap.size, 1, none⟩ = some (.slice (some ⟨bh, hoff, none⟩) hs.length hcap) ∧ W.cell? ⟨cb, coff + k, none⟩ = some (.int .i64 c) ∧ W.cell? ⟨bh, hoff + c * 2 + 1, none⟩ = some (.int .i64 up)) [13] #[false, false, false, false, false, false, false, false, false, false, false, false, false, false] (by kernel_rfl) rfl ?_
              refine Lim.stepR 0 (fun _ => trivial) rfl (by kernel_rfl) (fun _ _ _ _ h => h) hC rfl ?_; apply Exists.intro; refine ⟨?_, ?_⟩
              · rintro w ⟨r1, r2, r3, r4⟩; go_simp; try with_reducible rfl
              simp only [Act.put, List.setIfInBounds_toArray, List.set_cons_succ, List.set_cons_zero]
              refine Lim.stepR 1 (fun _ => trivial) rfl (by kernel_rfl) (fun _ _ _ _ h => h) hC rfl ?_; apply Exists.intro; refine ⟨?_, ?_⟩
              · rintro w ⟨r1, r2, r3, r4⟩; go_simp; try with_reducible rfl
              simp only [Act.put, List.setIfInBounds_toArray, List.set_cons_succ, List.set_cons_zero]
              refine Lim.stepR 2 (fun _ => trivial) rfl (by kernel_rfl) (fun _ _ _ _ h => h) hC rfl ?_; apply Exists.intro; refine ⟨?_, ?_⟩
              · rintro w ⟨r1, r2, r3, r4⟩; go_simp; try with_reducible rfl
              simp only [Act.put, List.setIfInBounds_toArray, List.set_cons_succ, List.set_cons_zero]
              refine Lim.stepR 3 (fun _ => trivial) rfl (by kernel_rfl) (fun _ _ _ _ h => h) hC rfl ?_; apply Exists.intro; refine ⟨?_, ?_⟩
              · rintro w ⟨r1, r2, r3, r4⟩; go_simp; try with_reducible rfl
              simp only [Act.put, List.setIfInBounds_toArray, List.set_cons_succ, List.set_cons_zero]
              refine Lim.stepR 4 (fun _ => trivial) rfl (by kernel_rfl) (fun _ _ _ _ h => h) hC rfl ?_; apply Exists.intro; refine ⟨?_, ?_⟩
              · rintro w ⟨r1, r2, r3, r4⟩; go_simp; try with_reducible rfl
              simp only [Act.put, List.setIfInBounds_toArray, List.set_cons_succ, List.set_cons_zero]
              refine Lim.stepR 5 (fun _ => trivial) rfl (by kernel_rfl) (fun _ _ _ _ h => h) hC rfl ?_; apply Exists.intro; refine ⟨?_, ?_⟩
              · rintro w ⟨r1, r2, r3, r4⟩; go_simp; try with_reducible rfl
              simp only [Act.put, List.setIfInBounds_toArray, List.set_cons_succ, List.set_cons_zero]
              refine Lim.stepR 6 (fun _ => trivial) rfl (by kernel_rfl) (fun _ _ _ _ h => h) hC rfl ?_; apply Exists.intro; refine ⟨?_, ?_⟩
              · rintro w ⟨r1, r2, r3, r4⟩; go_simp; try with_reducible rfl
              simp only [Act.put, List.setIfInBounds_toArray, List.set_cons_succ, List.set_cons_zero]
              refine Lim.stepR 7 (fun _ => trivial) rfl (by kernel_rfl) (fun _ _ _ _ h => h) hC rfl ?_; apply Exists.intro; refine ⟨?_, ?_⟩
              · rintro w ⟨r1, r2, r3, r4⟩; go_simp; try with_reducible rfl
              simp only [Act.put, List.setIfInBounds_toArray, List.set_cons_succ, List.set_cons_zero]
              refine Lim.stepR 8 (fun _ => trivial) rfl (by kernel_rfl) (fun _ _ _ _ h => h) hC rfl ?_; apply Exists.intro; refine ⟨?_, ?_⟩
              · rintro w ⟨r1, r2, r3, r4⟩; go_simp; try with_reducible rfl
              simp only [Act.put, List.setIfInBounds_toArray, List.set_cons_succ, List.set_cons_zero]
              refine Lim.stepR 9 (fun _ => trivial) rfl (by kernel_rfl) (fun _ _ _ _ h => h) hC rfl ?_; apply Exists.intro; refine ⟨?_, ?_⟩
              · rintro w ⟨r1, r2, r3, r4⟩; go_simp; try with_reducible rfl
              simp only [Act.put, List.setIfInBounds_toArray, List.set_cons_succ, List.set_cons_zero]
              refine Lim.stepR 10 (fun _ => trivial) rfl (by kernel_rfl) (fun _ _ _ _ h => h) hC rfl ?_; apply Exists.intro; refine ⟨?_, ?_⟩
              · rintro w ⟨r1, r2, r3, r4⟩; go_simp; try with_reducible rfl
              simp only [Act.put, List.setIfInBounds_toArray, List.set_cons_succ, List.set_cons_zero]
              refine Lim.stepR 11 (fun _ => trivial) rfl (by kernel_rfl) (fun _ _ _ _ h => h) hC rfl ?_; apply Exists.intro; refine ⟨?_, ?_⟩
              · rintro w ⟨r1, r2, r3, r4⟩; go_simp; try with_reducible rfl
              simp only [Act.put, List.setIfInBounds_toArray, List.set_cons_succ, List.set_cons_zero]
              refine Lim.stepR 12 (fun _ => trivial) rfl (by kernel_rfl) (fun _ _ _ _ h => h) hC rfl ?_; apply Exists.intro; refine ⟨?_, ?_⟩
              · rintro w ⟨r1, r2, r3, r4⟩; go_simp; try with_reducible rfl
              simp only [Act.put, List.setIfInBounds_toArray, List.set_cons_succ, List.set_cons_zero]
              refine Lim.stepX 13 (fun _ => trivial) rfl (by kernel_rfl) rfl rfl (fun K hK => ?_)
              go_simp
              refine hK _ _ ?_
              refine Lim.segC (fun _ => True) [] (Lim.stepD (by kernel_rfl) ?_)
              have HB_ := Lib.hid ((HA.out.set1 (Nat.ne_of_lt HZ3.out) (max y up)).below (Below.refl _ _).drew)
              clear hC HA
              go_wp2
              go_roundw
              case rel => exact ⟨k + 1, by omega, by go_num, by rw [HXS.out.1, HXS.out.2]; exact HB_.out, HP2⟩
              case measure => simp [intOf]; omega
        · obtain rfl : k = xs.length := by omega
          have hcr := HI2.out.1 (fun j hj => hP.out j hj)
          rw [List.take_length] at HLL
          have HCR := Lib.hid hcr
          clear hcr L
          obtain ⟨x, hx⟩ : ∃ x, x = maxL (losOf hs xs) 0 := ⟨_, rfl⟩
          obtain ⟨y, hy⟩ : ∃ y, y = maxL (hisOf hs xs) 0 := ⟨_, rfl⟩
          rw [← hx, ← hy] at HLL
          have HXY := Lib.hid (And.intro hx hy)
          clear hx hy
          obtain ⟨s0, s1⟩ := HLL.out.z0
          obtain ⟨y0, y1⟩ := HLL.out.y0
          obtain ⟨t0, t1⟩ := HLL.out.s0
          go_wp2
          obtain ⟨u0, u1⟩ := span_set (.int .i64 x) (.int .i64 y) s0 s1
          refine bodyPost_ret (v := .tuple #[.agg #[.int .i64 x, .int .i64 y], .int .i64 0]) ?_ rfl ?_
          · exact results_ct (p := 4) (u := 5) (ty := 54) rfl _ _ (w.heap.size + 1) _ rfl (load_span u0 u1)
          · exact ⟨x, y, 0, rfl, (HLL.out.be.setCell (p := ⟨w.heap.size + 1, 0, none⟩) (Nat.le_succ _) _).setCell (p := ⟨w.heap.size + 1, 1, none⟩) (Nat.le_succ _) _, .inr (.inr ⟨HE.out, HCR.out, HXY.out.1, HXY.out.2, rfl⟩)⟩
theorem rcrosses_any {B : Nat} {wd : Int} {hv sv cv : Value} {hs : List (Int × Int)} {ss xs : List Int} {w : World} (hn : xs.length ≤ 1000) (hB : B ≤ w.heap.size) (hh : RS B w hv hs.length (spans hs)) (hss : RS B w sv ss.length (ints ss)) (hxs : RS B w cv xs.length (ints xs)) :
    Calls Try.prog 46 #[.agg #[.int .i64 wd, hv, sv], cv] w fun e w' => ∃ x y er, e = .returned (.tuple #[.agg #[.int .i64 x, .int .i64 y], .int .i64 er]) ∧ Below w.heap.size w w' ∧ CrossAns wd hs ss xs x y er := by
  by_cases he : landErr wd hs ss xs = 0
  · have h1 := (openErr_zero (landErr_good he).1).1
    simp only [goodCount, Bool.and_eq_true, decide_eq_true_eq] at h1
    obtain ⟨m, rfl⟩ : ∃ m : Nat, wd = m := ⟨wd.toNat, by omega⟩
    by_cases hp : 0 < xs.length
    · exact rcrosses_good hn hB hh hss hxs he hp
    · obtain rfl : xs = [] := List.length_eq_zero_iff.1 (by omega)
      exact rcrosses_none hB hh hss hxs he
  · exact rcrosses_bad hn hB hh hss hxs he
end Go.Proofs.Ytdgibmgifgdpbaa
/-
  Cells that part the seas, as the reference has them: the contract of Parts.
-/
namespace Go.Proofs.Ytdgibmgifgdpbaa
open Go.RowKit Go.Shelf
open Lim

/-- a wall parts the seas just if the saddle of a ground on which it alone is high is not 0 -/
theorem saddle_wall {g : Gd} {xs : List Int} {t : Nat → Int} {r : Int} (hg : g.Ok) (ht : ∀ c, c < g.n → t c = if (c : Int) ∈ xs then 1 else 0) (hr : IsSaddle g t r) : 0 < r ↔ PartsG g xs := by
  have hA : ∀ c, (land g c ∧ ¬ (c : Int) ∈ xs) → c < g.n := fun c h => h.1.1
  constructor
  · intro h0 c hc
    by_cases h2 : atB g c 2 = true
    · exfalso
      obtain ⟨k, hk, hk1⟩ := Re.turn (T := fun c => atB g c 2 = true) hg hA hc (.base hc.in_A h2)
      have : R g t 2 0 k := hk.mono (fun c hc => ⟨hc.1, by rw [ht c hc.1.1, if_neg hc.2]; omega⟩) (fun _ _ h => h)
      have := hr.least k 0 hk1 this
      omega
    · simpa using h2
  · intro hp
    rcases Int.lt_or_le 0 r with h | h
    · exact h
    · exfalso
      obtain ⟨c, hl, ha, hR⟩ := hr.hit (by omega)
      have h1 : Re g (fun c => land g c ∧ ¬ (c : Int) ∈ xs) (fun c => atB g c 2 = true) c := Re.mono (fun c hc => ⟨hc.1, fun hm => by
        have := hc.2
        rw [ht c hc.1.1, if_pos hm] at this
        omega⟩) (fun _ _ h => h) hR
      obtain ⟨k, hk, hk2⟩ := Re.turn (T := fun c => atB g c 1 = true) hg hA h1 (.base h1.in_A ha)
      have := hp k hk
      rw [this] at hk2
      cases hk2
/-- memory while a wall is laid -/
structure WaM (w : World) (m : Nat) (hv sv : Value) (q n : Nat) (p : Nat → Int) (W : World) : Prop where
  f0 : W.cell? ⟨w.heap.size, 0, none⟩ = some (.int .i64 m)
  f1 : W.cell? ⟨w.heap.size, 1, none⟩ = some hv
  f2 : W.cell? ⟨w.heap.size, 2, none⟩ = some sv
  own : W.ownsRow q 3 1 (.slice (some ⟨q, 0, none⟩) n n) n (lv n p)
  lt : w.heap.size < q
  be : Below w.heap.size w W
theorem WaM.at {w : World} {m : Nat} {hv sv : Value} {q n : Nat} {p : Nat → Int} {W : World} (h : WaM w m hv sv q n p W) {k : Nat} (hk : k < n) : W.cell? ⟨q, k, none⟩ = some (.int .i64 (p k)) := by
  rw [h.own.cellAt k (by omega), lv_at p hk]
theorem WaM.below {w : World} {m : Nat} {hv sv : Value} {q n : Nat} {p : Nat → Int} {W W' : World} (h : WaM w m hv sv q n p W) (hb : Below W.heap.size W W') : WaM w m hv sv q n p W' :=
  ⟨cell_on hb h.f0, cell_on hb h.f1, cell_on hb h.f2, owns_below h.own hb, h.lt, h.be.trans (hb.mono h.be.size)⟩
theorem WaM.store {w : World} {m : Nat} {hv sv : Value} {q n : Nat} {p : Nat → Int} {W : World} (h : WaM w m hv sv q n p W) {k : Nat} (hk : k < n) (x : Int) : WaM w m hv sv q n (fun y => if y = k then x else p y) (W.setCell ⟨q, k, none⟩ (.int .i64 x)) := by
  refine ⟨(setCell_far _ _ (Nat.ne_of_gt h.lt)).trans h.f0, (setCell_far _ _ (Nat.ne_of_gt h.lt)).trans h.f1, (setCell_far _ _ (Nat.ne_of_gt h.lt)).trans h.f2, ?_, h.lt, h.be.setCell (p := ⟨q, k, none⟩) (Nat.le_of_lt h.lt) _⟩
  have := (h.own.stored k (.int .i64 x)).1
  rw [lv_set p x hk] at this
  exact this
theorem WaM.ext {w : World} {m : Nat} {hv sv : Value} {q n : Nat} {p p' : Nat → Int} {W : World} (h : WaM w m hv sv q n p W) (e : ∀ c, c < n → p c = p' c) : WaM w m hv sv q n p' W :=
  ⟨h.f0, h.f1, h.f2, by rw [← lv_ext e]; exact h.own, h.lt, h.be⟩

set_option maxRecDepth 20000 in
set_option maxHeartbeats 2000000 in
theorem rparts_bad {B : Nat} {wd h : Int} {hv sv cv : Value} {hs : List (Int × Int)} {ss xs : List Int} {w : World} (hn : xs.length ≤ 1000) (hB : B ≤ w.heap.size) (hh : RS B w hv hs.length (spans hs)) (hss : RS B w sv ss.length (ints ss)) (hxs : RS B w cv xs.length (ints xs)) (he : landErr wd hs ss xs ≠ 0) :
    Calls Try.prog 48 #[.agg #[.int .i64 wd, hv, sv], cv, .int .i64 h] w fun e w' => ∃ d er, e = .returned (.tuple #[.bool d, .int .i64 er]) ∧ Below w.heap.size w w' ∧ PartAns wd hs ss xs h d er := by
  have B1 : Below w.heap.size w (w.alloc (.cells #[.int .i64 wd, hv, sv] 28)) := (Below.refl _ w).alloc (Nat.le_refl _) _
  have CO := Lib.hid (rland_any (B := B) (wd := wd) (w := w.alloc (.cells #[.int .i64 wd, hv, sv] 28)) hn (by have := B1.size; omega) (hh.below (B1.mono hB)) (hss.below (B1.mono hB)) (hxs.below (B1.mono hB)))
  obtain ⟨ha, hcap, rfl, -⟩ := hh
  obtain ⟨sa, scap, rfl, -⟩ := hss
  obtain ⟨ca, ccap, rfl, -⟩ := hxs
  have HB1 := Lib.hid B1
  have HE := Lib.hid he
  clear he B1
  go_enter Try.func48, Try.ntmps48
  go_wp2_with fail
  refine CO.out.mono ?_
  clear CO
  rintro e w1 ⟨rfl, hb⟩
  have he1 : (landErr wd hs ss xs != 0) = true := by rw [bne, show (landErr wd hs ss xs == 0) = false from by rw [beq_eq_false_iff_ne]; exact HE.out]; rfl
  have HBR := Lib.hid (HB1.out.trans (hb.mono HB1.out.size))
  clear hb
  go_wp2
  go_ret2
  exact ⟨false, _, rfl, HBR.out, .inl ⟨HE.out, rfl, rfl⟩⟩

set_option maxRecDepth 20000 in
set_option maxHeartbeats 4000000 in
theorem rparts_good {B m : Nat} {h : Int} {hv sv cv : Value} {hs : List (Int × Int)} {ss xs : List Int} {w : World} (hn : xs.length ≤ 1000) (hB : B ≤ w.heap.size) (hh : RS B w hv hs.length (spans hs)) (hss : RS B w sv ss.length (ints ss)) (hxs : RS B w cv xs.length (ints xs)) (he : landErr m hs ss xs = 0) :
    Calls Try.prog 48 #[.agg #[.int .i64 m, hv, sv], cv, .int .i64 h] w fun e w' => ∃ d er, e = .returned (.tuple #[.bool d, .int .i64 er]) ∧ Below w.heap.size w w' ∧ PartAns m hs ss xs h d er := by
  have B1 : Below w.heap.size w (w.alloc (.cells #[.int .i64 m, hv, sv] 28)) := (Below.refl _ w).alloc (Nat.le_refl _) _
  have CO := Lib.hid (rland_any (B := B) (wd := m) (w := w.alloc (.cells #[.int .i64 m, hv, sv] 28)) hn (by have := B1.size; omega) (hh.below (B1.mono hB)) (hss.below (B1.mono hB)) (hxs.below (B1.mono hB)))
  have HOK : Hid (Gd.Ok ⟨m, hs, ss⟩) := Lib.hid (openErr_ok (landErr_good he).1)
  have HLD := Lib.hid (landErr_good he).2
  have HE := Lib.hid he
  have HRS := Lib.hid (And.intro hh (And.intro hss hB))
  rw [he] at CO
  have hlen : hs.length = ss.length := HOK.out.hn
  have hl : hs.length ≤ 100 := by have : ss.length ≤ 100 := HOK.out.n1; omega
  have HL := Lib.hid hlen
  obtain ⟨ha, hcap, rfl, hhc⟩ := hh
  obtain ⟨sa, scap, rfl, -⟩ := hss
  obtain ⟨ca, ccap, rfl, hcc⟩ := hxs
  have HCC := Lib.hid (And.intro hhc hcc)
  obtain ⟨i0, hi, hz0, hz1, hz2⟩ := info_parts Try.infoInt
  have HI := Lib.hid (And.intro hi (And.intro hz0 (And.intro hz1 hz2)))
  clear hhc hcc he hlen hi hz0 hz1 hz2
  have f0 : (w.alloc (.cells #[.int .i64 m, .slice ha hs.length hcap, .slice sa ss.length scap] 28)).cell? ⟨w.heap.size, 0, none⟩ = some (.int .i64 m) := by simp [go_sem]
  have f1 : (w.alloc (.cells #[.int .i64 m, .slice ha hs.length hcap, .slice sa ss.length scap] 28)).cell? ⟨w.heap.size, 1, none⟩ = some (.slice ha hs.length hcap) := by simp [go_sem]
  have f2 : (w.alloc (.cells #[.int .i64 m, .slice ha hs.length hcap, .slice sa ss.length scap] 28)).cell? ⟨w.heap.size, 2, none⟩ = some (.slice sa ss.length scap) := by simp [go_sem]
  have HF := Lib.hid (And.intro B1 (And.intro f0 (And.intro f1 f2)))
  clear f0 f1 f2 B1
  go_enter Try.func48, Try.ntmps48
  go_wp2_with fail
  refine CO.out.mono ?_
  clear CO
  rintro e w1 ⟨rfl, hb1⟩
  have HF1 : Hid (Below w.heap.size w w1 ∧ w1.cell? ⟨w.heap.size, 0, none⟩ = some (.int .i64 m) ∧ w1.cell? ⟨w.heap.size, 1, none⟩ = some (.slice ha hs.length hcap) ∧ w1.cell? ⟨w.heap.size, 2, none⟩ = some (.slice sa ss.length scap)) :=
    Lib.hid ⟨HF.out.1.trans (hb1.mono HF.out.1.size), cell_on hb1 HF.out.2.1, cell_on hb1 HF.out.2.2.1, cell_on hb1 HF.out.2.2.2⟩
  clear hb1 HF
  go_wp2_with fail
  go_loopw [9] (fun i wr => ∃ k : Nat, 1 ≤ k ∧ k ≤ xs.length + 1 ∧ i = .int .i64 k ∧ Hid (∀ j, 1 ≤ j → j < k → j < xs.length → xs.getD (j - 1) 0 < xs.getD j 0) ∧ Hid (Below w1.heap.size w1 wr)) (fun i _ => xs.length + 1 - (intOf i).toNat)
  case atStart => exact ⟨1, Nat.le_refl _, by omega, rfl, Lib.hid (fun j h1 h2 => by omega), Lib.hid (Below.refl _ _)⟩
  case round =>
    obtain ⟨k, hk1, hk, rfl, hP, HBR⟩ := hrel
    by_cases hlt : k < xs.length
    · obtain ⟨cb, coff, rfl, hcb, hcell⟩ := HCC.out.2 (ints_ne (by omega))
      obtain ⟨x, hx⟩ : ∃ x, x = xs.getD k 0 := ⟨_, rfl⟩
      obtain ⟨y, hy⟩ : ∃ y, y = xs.getD (k - 1) 0 := ⟨_, rfl⟩
      have HBW := Lib.hid (HF1.out.1.trans (HBR.out.mono HF1.out.1.size))
      have q0 : wr.cell? ⟨cb, coff + k, none⟩ = some (.int .i64 x) := by rw [hx, List.getD_eq_getElem?_getD]; exact cell_below HBW.out (hcell _ _ (ints_at' xs k hlt)) (by have := HRS.out.2.2; show cb < w.heap.size; omega)
      have q1 : wr.cell? ⟨cb, coff + (k - 1), none⟩ = some (.int .i64 y) := by rw [hy, List.getD_eq_getElem?_getD]; exact cell_below HBW.out (hcell _ _ (ints_at' xs (k - 1) (by omega))) (by have := HRS.out.2.2; show cb < w.heap.size; omega)
      have hk2 : k - 1 < xs.length := by omega
      have e2 : IntKind.i64.wrap ((k : Int) - 1) = ((k - 1 : Nat) : Int) := by rw [IntWalk.i64_in _ (by omega)]; omega
      have HXY := Lib.hid (And.intro hx hy)
      clear hx hy hcell
      by_cases hle : x ≤ y
      · have d0 : decide (x ≤ y) = true := by simpa using hle
        have HNR : Hid (¬ rising xs) := Lib.hid (fun hr => by have := hr k hk1 hlt; have h1 := HXY.out.1; have h2 := HXY.out.2; omega)
        clear hle
        go_wp2_with fail
        go_quiet (fail)
        go_wp2
        go_ret2
        exact ⟨false, 5, rfl, below_drewN HBW.out _, .inr (.inl ⟨HE.out, HNR.out, rfl, rfl⟩)⟩
      · have d0 : decide (x ≤ y) = false := by simpa using hle
        have HP2 : Hid (∀ j, 1 ≤ j → j < k + 1 → j < xs.length → xs.getD (j - 1) 0 < xs.getD j 0) := Lib.hid (fun j h1 h2 h3 => by
          by_cases e : j = k
          · subst e; have h4 := HXY.out.1; have h5 := HXY.out.2; omega
          · exact hP.out j h1 (by omega) h3)
        clear hle
        go_wp2_with fail
        go_quiet (fail)
        go_wp2
        go_roundw
        case rel => exact ⟨k + 1, by omega, by omega, by go_num, HP2, Lib.hid (below_drewN HBR.out _)⟩
        case measure => simp [intOf]; omega
    · have HR : Hid (rising xs) := Lib.hid (fun j h1 h2 => hP.out j h1 (by omega) h2)
      have HF2 : Hid (Below w.heap.size w wr ∧ wr.cell? ⟨w.heap.size, 0, none⟩ = some (.int .i64 m) ∧ wr.cell? ⟨w.heap.size, 1, none⟩ = some (.slice ha hs.length hcap) ∧ wr.cell? ⟨w.heap.size, 2, none⟩ = some (.slice sa ss.length scap)) :=
        Lib.hid ⟨HF1.out.1.trans (HBR.out.mono HF1.out.1.size), cell_on HBR.out HF1.out.2.1, cell_on HBR.out HF1.out.2.2.1, cell_on HBR.out HF1.out.2.2.2⟩
      clear HF1 HBR hP
      by_cases hbad : h < 0 ∨ 10000 < h
      · have HBH : Hid (inB h 0 10000 = false) := Lib.hid (inB_false hbad)
        by_cases h1 : h < 0
        · have d1 : decide (h < 0) = true := by simpa using h1
          clear h1 hbad
          go_wp2
          go_ret2
          exact ⟨false, 4, rfl, HF2.out.1, .inr (.inr (.inl ⟨HE.out, HR.out, HBH.out, rfl, rfl⟩))⟩
        · have d1 : decide (h < 0) = false := by simpa using h1
          have d2 : decide (10000 < h) = true := by simp; omega
          clear h1 hbad
          go_wp2
          go_ret2
          exact ⟨false, 4, rfl, HF2.out.1, .inr (.inr (.inl ⟨HE.out, HR.out, HBH.out, rfl, rfl⟩))⟩
      · have HBH : Hid (inB h 0 10000 = true) := Lib.hid (inB_iff.2 (by omega))
        have d1 : decide (h < 0) = false := by simp; omega
        have d2 : decide (10000 < h) = false := by simp; omega
        clear hbad
        have f1 := HF2.out.2.2.1
        go_wp2_with (refine wpList_make_full _ rfl _ _ 23 rfl wr.heap.size 3 i0 (.int .i64 0) 1 Try.underlying23 HI.out.1 HI.out.2.1 HI.out.2.2.1 .i64 .i64 _ _ hs.length rfl rfl rfl rfl (by rw [HI.out.2.2.2]; omega) (by unfold maxLen; omega) (Nat.le_refl _) ?_; intro w3 hown3 hgr3)
        have M0 : WaM w m (.slice ha hs.length hcap) (.slice sa ss.length scap) wr.heap.size hs.length (fun _ => 0) w3 := by
          rw [lv_made] at hown3
          have hb : Below wr.heap.size wr w3 := ⟨hgr3.os, hgr3.tape, hgr3.output, hgr3.size, fun k hk => hgr3.block k hk (by simp)⟩
          exact ⟨cell_on hb HF2.out.2.1, cell_on hb HF2.out.2.2.1, cell_on hb HF2.out.2.2.2, hown3, World.block_lt_of_cell? _ _ HF2.out.2.1, HF2.out.1.trans (hb.mono HF2.out.1.size)⟩
        have HM0 := Lib.hid M0
        obtain ⟨q, hq⟩ : ∃ q, q = wr.heap.size := ⟨_, rfl⟩
        rw [← hq] at HM0 ⊢
        clear hown3 hgr3 M0 HF2 f1 d1 d2 hq
        go_loopw [11] (fun i W => ∃ k : Nat, k ≤ xs.length ∧ i = .int .i64 k ∧ WaM w m (.slice ha hs.length hcap) (.slice sa ss.length scap) q hs.length (fun c => if (c : Int) ∈ xs.take k then 1 else 0) W ∧ Hid (∀ x ∈ xs.take k, h ≤ (hs.getD x.toNat (0, 0)).1)) (fun i _ => xs.length - (intOf i).toNat)
        case atStart => exact ⟨0, Nat.zero_le _, rfl, HM0.out.ext (fun c _ => by simp), Lib.hid (fun x hx => by simp at hx)⟩
        case round =>
          clear HM0
          obtain ⟨k, hk, rfl, L, hQ⟩ := hrel
          have HLL := Lib.hid L
          by_cases hlt : k < xs.length
          · obtain ⟨c, hc, hcn⟩ := on_land HL.out HLD.out hlt
            have hcl : c < hs.length := by have := HL.out; omega
            obtain ⟨cb, coff, rfl, hcb, hcell⟩ := HCC.out.2 (ints_ne (by omega))
            obtain ⟨bh, hoff, rfl, hhb, hhcell⟩ := HCC.out.1 (spans_ne (by omega))
            obtain ⟨lo, hlo⟩ : ∃ lo, lo = (hs.getD c (0, 0)).1 := ⟨_, rfl⟩
            have q0 : wr.cell? ⟨cb, coff + k, none⟩ = some (.int .i64 c) := by rw [← hc, List.getD_eq_getElem?_getD]; exact cell_below HLL.out.be (hcell _ _ (ints_at' xs k hlt)) (by have := HRS.out.2.2; show cb < w.heap.size; omega)
            have q1 : wr.cell? ⟨bh, hoff + c * 2, none⟩ = some (.int .i64 lo) := by rw [hlo, List.getD_eq_getElem?_getD, List.getElem?_eq_getElem hcl]; exact cell_below HLL.out.be (hhcell _ _ (spans_lo _ c hcl)) (by have := HRS.out.2.2; show bh < w.heap.size; omega)
            have HXC : Hid (xs[k] = (c : Int)) := Lib.hid (by rw [List.getD_eq_getElem?_getD, List.getElem?_eq_getElem hlt] at hc; exact hc)
            have HLO := Lib.hid hlo
            have f1 := L.f1
            clear hc hlo hcell hhcell L
            by_cases hlh : lo < h
            · have d0 : decide (lo < h) = true := by simpa using hlh
              have HN : Hid (¬ ∀ x ∈ xs, h ≤ (hs.getD x.toNat (0, 0)).1) := Lib.hid (fun hall => by
                have := hall xs[k] (List.getElem_mem hlt)
                rw [HXC.out] at this
                have h1 := HLO.out
                simp at this h1
                omega)
              clear hlh
              go_wp2_with fail
              go_quiet (fail)
              go_wp2
              go_ret2
              exact ⟨false, 0, rfl, below_drewN HLL.out.be _, .inr (.inr (.inr ⟨HE.out, HR.out, HBH.out, rfl, fun hd => (by cases hd), fun hd => absurd hd.1 HN.out⟩))⟩
            · have d0 : decide (lo < h) = false := by simpa using hlh
              have HQ2 : Hid (∀ x ∈ xs.take (k + 1), h ≤ (hs.getD x.toNat (0, 0)).1) := Lib.hid (fun x hx => by
                rw [List.take_succ_eq_append_getElem hlt, List.mem_append] at hx
                rcases hx with hx | hx
                · exact hQ.out x hx
                · obtain rfl : x = xs[k] := by simpa using hx
                  rw [HXC.out]
                  have h1 := HLO.out
                  simp at h1 ⊢
                  omega)
              clear hlh
              go_wp2_with fail
              go_quiet (fail)
              have HLW := Lib.hid (HLL.out.below (below_drewN (Below.refl _ wr) nq))
              have HST := Lib.hid (HLW.out.store hcl 1)
              have p0 : (wr.drewN nq).cell? ⟨cb, coff + k, none⟩ = some (.int .i64 c) := q0
              have p1 := HLW.out.at hcl
              have p2 := HLW.out.own.frozenAt c
              clear q0 q1 d0 f1 HLL HLW
              generalize wr.drewN nq = w6 at HST p0 p1 p2 ⊢
              go_wp2
              go_roundw
              case rel => exact ⟨k + 1, by omega, by go_num, HST.out.ext (fun y hy => by
                rw [List.take_succ_eq_append_getElem hlt, HXC.out]
                by_cases e : y = c
                · subst e; simp
                · rw [if_neg e]
                  by_cases h2 : (y : Int) ∈ xs.take k
                  · rw [if_pos h2, if_pos (List.mem_append.2 (.inl h2))]
                  · rw [if_neg h2, if_neg (fun h3 => by
                      rcases List.mem_append.1 h3 with h3 | h3
                      · exact h2 h3
                      · have : (y : Int) = c := by simpa using h3
                        omega)]), HQ2⟩
              case measure => simp [intOf]; omega
          · obtain rfl : k = xs.length := by omega
            rw [List.take_length] at hQ
            obtain ⟨f0, f1, f2, -, -, -⟩ := L
            have HT : Hid (RS wr.heap.size wr (.slice (some ⟨q, 0, none⟩) hs.length hs.length) ((List.range hs.length).map fun c : Nat => if (c : Int) ∈ xs then (1 : Int) else 0).length (ints ((List.range hs.length).map fun c : Nat => if (c : Int) ∈ xs then (1 : Int) else 0))) := Lib.hid (by
              have := RS.of_owns HLL.out.own
              rw [List.take_length, lv_ints] at this
              simpa using this)
            go_wp2_with fail
            have HB4 := HLL.out.be
            refine (least_any (B := wr.heap.size) (g := ⟨m, hs, ss⟩) (hv := .slice ha hs.length hcap) HOK.out (by simp; exact HL.out) (Nat.le_refl _) ((HRS.out.2.1.below (HB4.mono HRS.out.2.2)).mono (by have := HB4.size; have := HRS.out.2.2; omega)) HT.out).mono ?_
            rintro e w7 ⟨r, rfl, hsd, hb7⟩
            have hpw := saddle_wall (g := ⟨m, hs, ss⟩) (xs := xs) HOK.out (fun c hc => by
              have h1 : c < hs.length := by have h2 := HL.out; have h3 : c < ss.length := hc; omega
              simp [List.getD_eq_getElem?_getD, h1]) hsd
            have HPW := Lib.hid hpw
            have HB7 := Lib.hid (HLL.out.be.trans (hb7.mono HLL.out.be.size))
            clear hpw hsd hb7 HT HLL f0 f1 f2 HB4
            go_wp2
            go_ret2
            exact ⟨_, 0, rfl, HB7.out, .inr (.inr (.inr ⟨HE.out, HR.out, HBH.out, rfl, by rw [decide_eq_true_eq]; exact ⟨fun h0 => ⟨hQ.out, HPW.out.1 h0⟩, fun hd => HPW.out.2 hd.2⟩⟩))⟩
theorem rparts_any {B : Nat} {wd h : Int} {hv sv cv : Value} {hs : List (Int × Int)} {ss xs : List Int} {w : World} (hn : xs.length ≤ 1000) (hB : B ≤ w.heap.size) (hh : RS B w hv hs.length (spans hs)) (hss : RS B w sv ss.length (ints ss)) (hxs : RS B w cv xs.length (ints xs)) :
    Calls Try.prog 48 #[.agg #[.int .i64 wd, hv, sv], cv, .int .i64 h] w fun e w' => ∃ d er, e = .returned (.tuple #[.bool d, .int .i64 er]) ∧ Below w.heap.size w w' ∧ PartAns wd hs ss xs h d er := by
  by_cases he : landErr wd hs ss xs = 0
  · have h1 := (openErr_zero (landErr_good he).1).1
    simp only [goodCount, Bool.and_eq_true, decide_eq_true_eq] at h1
    obtain ⟨m, rfl⟩ : ∃ m : Nat, wd = m := ⟨wd.toNat, by omega⟩
    exact rparts_good hn hB hh hss hxs he
  · exact rparts_bad hn hB hh hss hxs he
end Go.Proofs.Ytdgibmgifgdpbaa
/-
  What is returned is what is asked: crossings, ridges, and ridges that lack a cell, in plain words.
-/
namespace Go.Proofs.Ytdgibmgifgdpbaa
open Go.RowKit Go.Shelf
open Lim

theorem ends_range {wd : Int} {hs : List (Int × Int)} {ss : List Int} (he : openErr wd hs ss = 0) {c : Nat} (hc : c < ss.length) : 0 ≤ lowT ⟨wd.toNat, hs, ss⟩ c ∧ lowT ⟨wd.toNat, hs, ss⟩ c ≤ highT ⟨wd.toNat, hs, ss⟩ c ∧ highT ⟨wd.toNat, hs, ss⟩ c ≤ 10000 := by
  have h1 := (openErr_ok he).hn
  rw [lowT_eq, highT_eq]
  exact goodSpan (openErr_zero he).2.2.1 (show c < hs.length by simp [Gd.n] at h1; omega)
theorem maxL_le {l : List Int} : ∀ {f y : Int}, f ≤ y → (∀ x ∈ l, x ≤ y) → maxL l f ≤ y := by
  induction l with
  | nil => intro f y h _; exact h
  | cons a l ih => intro f y h hx; exact ih (by have := hx a (by simp); omega) (fun x h' => hx x (by simp [h']))
theorem getD_nats {L : List Nat} {k : Nat} (hk : k < L.length) : (nats L).getD k 0 = (L[k] : Int) := by
  rw [List.getD_eq_getElem?_getD]
  unfold nats
  rw [List.getElem?_map, List.getElem?_eq_getElem hk]
  rfl
theorem land_nats {wd : Int} {hs : List (Int × Int)} {ss : List Int} {L : List Nat} (he : openErr wd hs ss = 0) (h : ∀ c ∈ L, land ⟨wd.toNat, hs, ss⟩ c) : landErr wd hs ss (nats L) = 0 := by
  unfold landErr
  rw [if_neg (by simp [he]), if_neg]
  intro hany
  obtain ⟨x, hx, ho⟩ := List.any_eq_true.1 hany
  obtain ⟨c, hc, rfl⟩ := List.mem_map.1 hx
  have h1 := h c hc
  have hl := (openErr_ok he).hn
  have h2 : c < ss.length := h1.1
  have h3 : ss.getD c 0 = 0 := h1.2
  unfold offLand at ho
  rw [inB_iff.2 ⟨by show (0 : Int) ≤ (c : Int); omega, by show (c : Int) ≤ _; simp [Gd.n] at hl; omega⟩] at ho
  have e : (Int.ofNat c).toNat = c := rfl
  rw [e, h3] at ho
  simp at ho
theorem crossing_crosses {wd : Int} {hs : List (Int × Int)} {ss : List Int} {L : List Nat} {x y er : Int} {h : Int} (he : openErr wd hs ss = 0)
    (hw : IsWay ⟨wd.toNat, hs, ss⟩ (Low ⟨wd.toNat, hs, ss⟩ (highT ⟨wd.toNat, hs, ss⟩) h) (fun c => atB ⟨wd.toNat, hs, ss⟩ c 1 = true) (fun c => atB ⟨wd.toNat, hs, ss⟩ c 2) L) (ha : CrossAns wd hs ss (nats L) x y er) : er = 0 ∧ y ≤ h := by
  have hl := land_nats (L := L) he (fun c hc => (hw.cells c hc).1)
  have hg := openErr_ok he
  have hpos : 0 < L.length := by obtain ⟨b, r, rfl, -⟩ := hw.first; simp
  have hc : isCross ⟨wd.toNat, hs, ss⟩ (nats L) := by
    refine ⟨by rw [nats_length]; exact hpos, ?_, ?_, ?_⟩
    · rw [getD_nats hpos]
      obtain ⟨b, r, e, hb⟩ := hw.first
      subst e
      exact hb
    · rw [nats_length, getD_nats (by omega)]
      obtain ⟨l, b, e, hb⟩ := hw.last
      subst e
      simpa using hb
    · intro j hj
      rw [nats_length] at hj
      rw [getD_nats (k := j) (by omega), getD_nats (k := j + 1) hj]
      have e : L = L.take j ++ L[j] :: L[j + 1] :: L.drop (j + 2) := by
        rw [List.getElem_cons_drop, List.getElem_cons_drop, List.take_append_drop]
      have := hw.adj _ _ _ _ e
      exact nb_symm hg (hw.cells _ (List.getElem_mem (by omega))).1.1 this
  have hy : maxL (hisOf hs (nats L)) 0 ≤ h := by
    have hin : ∀ c ∈ L, 0 ≤ highT ⟨wd.toNat, hs, ss⟩ c ∧ highT ⟨wd.toNat, hs, ss⟩ c ≤ h := fun c hc =>
      ⟨by have := ends_range he (hw.cells c hc).1.1; omega, (hw.cells c hc).2⟩
    refine maxL_le ?_ ?_
    · have := hin L[0] (List.getElem_mem hpos); omega
    · intro u hu
      unfold hisOf at hu
      obtain ⟨v, hv, rfl⟩ := List.mem_map.1 hu
      obtain ⟨c, hc, rfl⟩ := List.mem_map.1 hv
      have := (hin c hc).2
      rw [highT_eq] at this
      exact this
  rcases ha with ⟨h1, -⟩ | ⟨-, h1, -⟩ | ⟨-, -, rfl, rfl, rfl⟩
  · exact absurd hl h1
  · exact absurd hc h1
  · exact ⟨rfl, hy⟩
theorem ridge_rising {L : List Nat} (h : L.Pairwise (· < ·)) : rising (nats L) := by
  intro j h1 h2
  rw [nats_length] at h2
  rw [getD_nats (by omega), getD_nats h2]
  have := List.pairwise_iff_getElem.1 h (j - 1) j (by omega) h2 (by omega)
  omega
theorem saddle_range {wd : Int} {hs : List (Int × Int)} {ss : List Int} {x y : Int} (h : SadAns wd hs ss x y 0) : openErr wd hs ss = 0 ∧ IsSaddle ⟨wd.toNat, hs, ss⟩ (lowT ⟨wd.toNat, hs, ss⟩) x ∧ inB x 0 10000 = true := by
  rcases h with ⟨h0, -, -, h1⟩ | ⟨h0, a, b, ha, hb, ⟨-, -, -, h1⟩ | ⟨h1, rfl, rfl, -⟩⟩
  · exact absurd h1.symm h0
  · omega
  · refine ⟨h0, ha, inB_iff.2 ?_⟩
    have h2 := ha.top
    obtain ⟨c, hl, -, hR⟩ := ha.hit (by omega)
    have h3 := (Re.in_A hR).2
    have h4 := ends_range h0 hl.1
    omega
theorem ridge_parts {wd : Int} {hs : List (Int × Int)} {ss : List Int} {L : List Nat} {x y er : Int} {d : Bool} (hs0 : SadAns wd hs ss x y 0) (h : RInv ⟨wd.toNat, hs, ss⟩ x L L.length) (ha : PartAns wd hs ss (nats L) x d er) : er = 0 ∧ d = true := by
  obtain ⟨he, -, hx⟩ := saddle_range hs0
  have hl := land_nats he (fun c hc => (h.cells c hc).1)
  have hr := ridge_rising h.up
  rcases ha with ⟨h1, -⟩ | ⟨-, h1, -⟩ | ⟨-, -, h1, -⟩ | ⟨-, -, -, rfl, h1⟩
  · exact absurd hl h1
  · exact absurd hr h1
  · rw [hx] at h1; cases h1
  · refine ⟨rfl, h1.2 ⟨fun c hc => ?_, h.parts⟩⟩
    obtain ⟨k, hk, rfl⟩ := List.mem_map.1 hc
    have := (h.cells k hk).2
    rw [lowT_eq] at this
    exact this
theorem ridge_needs {wd : Int} {hs : List (Int × Int)} {ss : List Int} {L : List Nat} {x y er : Int} {d : Bool} {i : Nat} (hs0 : SadAns wd hs ss x y 0) (h : RInv ⟨wd.toNat, hs, ss⟩ x L L.length) (hi : i < L.length) (ha : PartAns wd hs ss (nats (L.eraseIdx i)) x d er) : er = 0 ∧ d = false := by
  obtain ⟨he, -, hx⟩ := saddle_range hs0
  have hsub : ∀ c ∈ L.eraseIdx i, c ∈ L := fun c hc => (List.eraseIdx_sublist _ _).subset hc
  have hl := land_nats he (fun c hc => (h.cells c (hsub c hc)).1)
  have hr := ridge_rising (h.up.sublist (List.eraseIdx_sublist L i))
  rcases ha with ⟨h1, -⟩ | ⟨-, h1, -⟩ | ⟨-, -, h1, -⟩ | ⟨-, -, -, rfl, h1⟩
  · exact absurd hl h1
  · exact absurd hr h1
  · rw [hx] at h1; cases h1
  · refine ⟨rfl, ?_⟩
    cases d with
    | false => rfl
    | true => exact absurd (h1.1 rfl).2 (h.need i hi hi)
theorem CrossAns.unique {wd : Int} {hs : List (Int × Int)} {ss xs : List Int} {x y er x' y' er' : Int} (h : CrossAns wd hs ss xs x y er) (k : CrossAns wd hs ss xs x' y' er') : x = x' ∧ y = y' ∧ er = er' := by
  rcases h with ⟨h0, rfl, rfl, rfl⟩ | ⟨h0, h1, rfl, rfl, rfl⟩ | ⟨h0, h1, rfl, rfl, rfl⟩ <;> rcases k with ⟨k0, rfl, rfl, rfl⟩ | ⟨k0, k1, rfl, rfl, rfl⟩ | ⟨k0, k1, rfl, rfl, rfl⟩ <;> first | exact ⟨rfl, rfl, rfl⟩ | exact absurd h0 k0 | exact absurd k0 h0 | exact absurd h1 k1 | exact absurd k1 h1
theorem PartAns.unique {wd : Int} {hs : List (Int × Int)} {ss xs : List Int} {h : Int} {d d' : Bool} {er er' : Int} (a : PartAns wd hs ss xs h d er) (k : PartAns wd hs ss xs h d' er') : d = d' ∧ er = er' := by
  rcases a with ⟨h0, rfl, rfl⟩ | ⟨h0, h1, rfl, rfl⟩ | ⟨h0, h1, h2, rfl, rfl⟩ | ⟨h0, h1, h2, rfl, h3⟩ <;> rcases k with ⟨k0, rfl, rfl⟩ | ⟨k0, k1, rfl, rfl⟩ | ⟨k0, k1, k2, rfl, rfl⟩ | ⟨k0, k1, k2, rfl, k3⟩ <;> first | exact ⟨rfl, rfl⟩ | exact absurd h0 k0 | exact absurd k0 h0 | exact absurd h1 k1 | exact absurd k1 h1 | exact absurd (h2.symm.trans k2) (by decide) | exact ⟨Bool.eq_iff_iff.2 (h3.trans k3.symm), rfl⟩
end Go.Proofs.Ytdgibmgifgdpbaa
