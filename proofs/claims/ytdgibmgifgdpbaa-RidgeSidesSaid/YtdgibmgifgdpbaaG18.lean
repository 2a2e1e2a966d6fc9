/-
  Parts of the proof, in the order in which they build: RefG, RefH, LawA, LawB, LawC.
-/
import Derived.BigQuiet
import Derived.Test.YtdgibmgifgdpbaaG17
import Derived.Test.YtdgibmgifgdpbaaG8
import Derived.Test.YtdgibmgifgdpbaaG16
set_option linter.unusedVariables false
set_option linter.unusedSimpArgs false
/-
  Passes as the reference answers them: the contract.
-/
namespace Go.Proofs.Ytdgibmgifgdpbaa
open Go.RowKit Go.Shelf
open Lim

theorem map_endOf (hs : List (Int × Int)) (b : Bool) (m : Nat) (ss : List Int) : (fun c => (hs.map (endOf b)).getD c 0) = (if b then highT ⟨m, hs, ss⟩ else lowT ⟨m, hs, ss⟩) := by
  cases b <;> rfl
theorem low_le_high {g : Gd} (hg : g.Ok) (hbs : badSpan g.hs = false) {s : Int} {a b : Nat → Int} (ha : IsPass g (lowT g) s a) (hb : IsPass g (highT g) s b) {c : Nat} (hc : c < g.n) : a c ≤ b c := by
  by_cases h : b c < 10001
  · refine ha.least c hc _ ((hb.sound c hc h).mono (fun k hk hle => ?_))
    have h1 := goodSpan hbs (c := k) (by have h2 := hk.1; have h3 : g.hs.length = g.ss.length := hg.hn; have h4 : g.n = g.ss.length := rfl; omega)
    rw [highT_eq] at hle
    rw [lowT_eq]
    omega
  · have := ha.top c hc
    have := hb.top c hc
    omega

set_option maxRecDepth 20000 in
set_option maxHeartbeats 2000000 in
theorem rpasses_any {B : Nat} {wd sea : Int} {hv sv : Value} {hs : List (Int × Int)} {ss : List Int} {w : World} (hB : B ≤ w.heap.size) (hh : RS B w hv hs.length (spans hs)) (hss : RS B w sv ss.length (ints ss)) :
    Calls Try.prog 42 #[.agg #[.int .i64 wd, hv, sv], .int .i64 sea] w fun e w' => ∃ v er l, e = .returned (.tuple #[v, .int .i64 er]) ∧ Below w.heap.size w w' ∧ PassAns wd hs ss sea er l ∧ w'.ownsRow w.heap.size 54 2 v l.length (spans l) := by
  have B1 : Below w.heap.size w (w.alloc (.cells #[.int .i64 wd, hv, sv] 28)) := (Below.refl _ w).alloc (Nat.le_refl _) _
  have CO := Lib.hid (rcheck_any (B := B) (wd := wd) (w := w.alloc (.cells #[.int .i64 wd, hv, sv] 28)) (by have := B1.size; omega) (hh.below (B1.mono hB)) (hss.below (B1.mono hB)))
  have HHS := Lib.hid (And.intro hh hss)
  obtain ⟨ha, hcap, rfl, -⟩ := hh
  obtain ⟨sa, scap, rfl, -⟩ := hss
  go_enter Try.func42, Try.ntmps42
  go_wp2_with fail
  have z0 : (w.alloc (.cells #[.int .i64 wd, .slice ha hs.length hcap, .slice sa ss.length scap] 28)).cell? ⟨w.heap.size, 0, none⟩ = some (.int .i64 wd) := by simp [go_sem]
  have z1 : (w.alloc (.cells #[.int .i64 wd, .slice ha hs.length hcap, .slice sa ss.length scap] 28)).cell? ⟨w.heap.size, 1, none⟩ = some (.slice ha hs.length hcap) := by simp [go_sem]
  have z2 : (w.alloc (.cells #[.int .i64 wd, .slice ha hs.length hcap, .slice sa ss.length scap] 28)).cell? ⟨w.heap.size, 2, none⟩ = some (.slice sa ss.length scap) := by simp [go_sem]
  refine CO.out.mono ?_
  clear CO
  rintro e w1 ⟨rfl, hb⟩
  have r0 := cell_on hb z0
  have r1 := cell_on hb z1
  have r2 := cell_on hb z2
  have BR : Below w.heap.size w w1 := B1.trans (hb.mono B1.size)
  clear z0 z1 z2 hb B1
  by_cases he : openErr wd hs ss = 0
  · have HE := Lib.hid he
    have HG := Lib.hid (openErr_ok he)
    have HZ := Lib.hid (openErr_zero he)
    have HWD : Hid (((wd.toNat : Nat) : Int) = wd) := Lib.hid (by
      have h1 := (openErr_zero he).1
      simp only [goodCount, Bool.and_eq_true, decide_eq_true_eq] at h1
      omega)
    have hl : hs.length ≤ 100 := by have := HG.out.n1; have := HG.out.hn; simp at *; omega
    have HLS : Hid (ss.length = hs.length) := Lib.hid HG.out.hn.symm
    rw [he]
    clear he
    by_cases hsea : sea = 1 ∨ sea = 2
    · have HSEA : Hid (inB sea 1 2 = true) := Lib.hid (inB_true (by omega) (by omega))
      have key : ∀ c3 : Bool, (sea != 1) = c3 → (c3 = true → (sea != 2) = false) → True := fun _ _ _ => trivial
      clear key
      rcases hsea with rfl | rfl
      · have hC : (fun W => W.cell? ⟨w.heap.size, 0, none⟩ = some (.int .i64 wd) ∧ W.cell? ⟨w.heap.size, 1, none⟩ = some (.slice ha hs.length hcap) ∧ W.cell? ⟨w.heap.size, 2, none⟩ = some (.slice sa ss.length scap)) w1.drew := ⟨r0, r1, r2⟩
        have HBD : Hid (Below w.heap.size w w1.drew) := Lib.hid BR.drew
        have CE : Hid (∀ (b : Bool) (W : World), Below w1.drew.heap.size w1.drew W → Calls Try.prog 78 #[.agg #[.int .i64 wd, .slice ha hs.length hcap, .slice sa ss.length scap], .bool b] W fun e w' => ∃ v, e = .returned v ∧ w'.ownsRow W.heap.size 3 1 v hs.length (ints (hs.map (endOf b))) ∧ Below W.heap.size W w') := Lib.hid (fun b W hb => by
          have hbW := HBD.out.trans (hb.mono HBD.out.size)
          exact ends_any (B := B) hl (by have := hbW.size; omega) (HHS.out.1.below (hbW.mono hB)))
        have CP : Hid (∀ (b : Bool) (s : Int) (v : Value) (W : World), Below w1.drew.heap.size w1.drew W → RS W.heap.size W v hs.length (ints (hs.map (endOf b))) → Calls Try.prog 60 #[.agg #[.int .i64 wd, .slice ha hs.length hcap, .slice sa ss.length scap], v, .int .i64 s] W fun e w' => ∃ v p, e = .returned v ∧ w'.ownsRow W.heap.size 3 1 v ss.length (ints ((List.range ss.length).map p)) ∧ IsPass ⟨wd.toNat, hs, ss⟩ (if b then highT ⟨wd.toNat, hs, ss⟩ else lowT ⟨wd.toNat, hs, ss⟩) s p ∧ Below W.heap.size W w') := Lib.hid (fun b s v W hb hv => by
          have hbW := HBD.out.trans (hb.mono HBD.out.size)
          have h := Pass_any (B := W.heap.size) (g := ⟨wd.toNat, hs, ss⟩) (hv := .slice ha hs.length hcap) (sv := .slice sa ss.length scap) (T := hs.map (endOf b)) (tv := v) (s := s) (w := W) HG.out (by show (hs.map (endOf b)).length = ss.length; rw [List.length_map]; exact HLS.out.symm) (Nat.le_refl _) ((HHS.out.2.below (hbW.mono hB)).mono (by have := hbW.size; omega)) (by rw [List.length_map]; exact hv)
          have e : (((⟨wd.toNat, hs, ss⟩ : Gd).wd : Nat) : Int) = wd := HWD.out
          rw [e, map_endOf hs b wd.toNat ss] at h
          exact h)
        clear r0 r1 r2
        go_wp2_with fail
        refine Lim.regC' (fun W => W.cell? ⟨w.heap.size, 0, none⟩ = some (.int .i64 wd) ∧ W.cell? ⟨w.heap.size, 1, none⟩ = some (.slice ha hs.length hcap) ∧ W.cell? ⟨w.heap.size, 2, none⟩ = some (.slice sa ss.length scap)) [] #[false, false, false, false, false, false, false, false, false, false, false, false] (by kernel_rfl) rfl ?_
        refine Lim.stepR 0 (fun _ => trivial) rfl (by kernel_rfl) (fun _ _ _ _ h => h) hC rfl ?_; apply Exists.intro; refine ⟨?_, ?_⟩
        · rintro w ⟨r1, r2, r3⟩; go_simp; try with_reducible rfl
        simp only [Act.put, List.setIfInBounds_toArray, List.set_cons_succ, List.set_cons_zero]
        refine Lim.stepR 1 (fun _ => trivial) rfl (by kernel_rfl) (fun _ _ _ _ h => h) hC rfl ?_; apply Exists.intro; refine ⟨?_, ?_⟩
        · rintro w ⟨r1, r2, r3⟩; go_simp; try with_reducible rfl
        simp only [Act.put, List.setIfInBounds_toArray, List.set_cons_succ, List.set_cons_zero]
        refine Lim.stepR 3 (fun _ => trivial) rfl (by kernel_rfl) (fun _ _ _ _ h => h) hC rfl ?_; apply Exists.intro; refine ⟨?_, ?_⟩
        · rintro w ⟨r1, r2, r3⟩; go_simp; try with_reducible rfl
        simp only [Act.put, List.setIfInBounds_toArray, List.set_cons_succ, List.set_cons_zero]
        refine Lim.stepR 5 (fun _ => trivial) rfl (by kernel_rfl) (fun _ _ _ _ h => h) hC rfl ?_; apply Exists.intro; refine ⟨?_, ?_⟩
        · rintro w ⟨r1, r2, r3⟩; go_simp; try with_reducible rfl
        simp only [Act.put, List.setIfInBounds_toArray, List.set_cons_succ, List.set_cons_zero]
        refine Lim.stepR 6 (fun _ => trivial) rfl (by kernel_rfl) (fun _ _ _ _ h => h) hC rfl ?_; apply Exists.intro; refine ⟨?_, ?_⟩
        · rintro w ⟨r1, r2, r3⟩; go_simp; try with_reducible rfl
        simp only [Act.put, List.setIfInBounds_toArray, List.set_cons_succ, List.set_cons_zero]
        refine Lim.stepR 8 (fun _ => trivial) rfl (by kernel_rfl) (fun _ _ _ _ h => h) hC rfl ?_; apply Exists.intro; refine ⟨?_, ?_⟩
        · rintro w ⟨r1, r2, r3⟩; go_simp; try with_reducible rfl
        simp only [Act.put, List.setIfInBounds_toArray, List.set_cons_succ, List.set_cons_zero]
        refine Lim.stepE 2 (fun _ => trivial) rfl (by kernel_rfl) rfl (fun K hK => ?_)
        go_simp
        refine ⟨rfl, (callsIn_wide.2 (CE.out false _ (Below.refl _ _))).mono ?_⟩
        rintro e w3 ⟨vl, rfl, hol, hbw3⟩
        have hC3 : (fun W => W.cell? ⟨w.heap.size, 0, none⟩ = some (.int .i64 wd) ∧ W.cell? ⟨w.heap.size, 1, none⟩ = some (.slice ha hs.length hcap) ∧ W.cell? ⟨w.heap.size, 2, none⟩ = some (.slice sa ss.length scap)) w3 := ⟨cell_on hbw3 hC.1, cell_on hbw3 hC.2.1, cell_on hbw3 hC.2.2⟩
        have HB3 := Lib.hid hbw3
        have HOL := Lib.hid (RS.of_owns hol)
        have hs3 := hbw3.size
        clear hol hbw3
        refine hK _ _ hC3 ?_
        simp only [Act.put, List.setIfInBounds_toArray, List.set_cons_succ, List.set_cons_zero]
        refine Lim.stepE 4 (fun _ => trivial) rfl (by kernel_rfl) rfl (fun K hK => ?_)
        go_simp
        refine ⟨rfl, (callsIn_wide.2 (CP.out false 1 _ _ HB3.out HOL.out)).mono ?_⟩
        rintro e w4 ⟨va, a, rfl, hoa, hpa, hbw4⟩
        have hC4 : (fun W => W.cell? ⟨w.heap.size, 0, none⟩ = some (.int .i64 wd) ∧ W.cell? ⟨w.heap.size, 1, none⟩ = some (.slice ha hs.length hcap) ∧ W.cell? ⟨w.heap.size, 2, none⟩ = some (.slice sa ss.length scap)) w4 := ⟨cell_on hbw4 hC3.1, cell_on hbw4 hC3.2.1, cell_on hbw4 hC3.2.2⟩
        have HB4 := Lib.hid (HB3.out.trans (hbw4.mono hs3))
        have HPA := Lib.hid hpa
        have HOA := Lib.hid (RS.of_owns hoa)
        have hs4 := HB4.out.size
        clear hoa hpa hbw4 HOL
        refine hK _ _ hC4 ?_
        simp only [Act.put, List.setIfInBounds_toArray, List.set_cons_succ, List.set_cons_zero]
        refine Lim.stepE 7 (fun _ => trivial) rfl (by kernel_rfl) rfl (fun K hK => ?_)
        go_simp
        refine ⟨rfl, (callsIn_wide.2 (CE.out true _ HB4.out)).mono ?_⟩
        rintro e w5 ⟨vh, rfl, hoh, hbw5⟩
        have hC5 : (fun W => W.cell? ⟨w.heap.size, 0, none⟩ = some (.int .i64 wd) ∧ W.cell? ⟨w.heap.size, 1, none⟩ = some (.slice ha hs.length hcap) ∧ W.cell? ⟨w.heap.size, 2, none⟩ = some (.slice sa ss.length scap)) w5 := ⟨cell_on hbw5 hC4.1, cell_on hbw5 hC4.2.1, cell_on hbw5 hC4.2.2⟩
        have HB5 := Lib.hid (HB4.out.trans (hbw5.mono hs4))
        have HOH := Lib.hid (RS.of_owns hoh)
        have HOA5 := Lib.hid ((HOA.out.below hbw5).mono hbw5.size)
        have hs5 := HB5.out.size
        clear hoh hbw5 HOA
        refine hK _ _ hC5 ?_
        simp only [Act.put, List.setIfInBounds_toArray, List.set_cons_succ, List.set_cons_zero]
        refine Lim.stepE 9 (fun _ => trivial) rfl (by kernel_rfl) rfl (fun K hK => ?_)
        go_simp
        refine ⟨rfl, (callsIn_wide.2 (CP.out true 1 _ _ HB5.out HOH.out)).mono ?_⟩
        rintro e w6 ⟨vb, b, rfl, hob, hpb, hbw6⟩
        have hC6 : (fun W => W.cell? ⟨w.heap.size, 0, none⟩ = some (.int .i64 wd) ∧ W.cell? ⟨w.heap.size, 1, none⟩ = some (.slice ha hs.length hcap) ∧ W.cell? ⟨w.heap.size, 2, none⟩ = some (.slice sa ss.length scap)) w6 := ⟨cell_on hbw6 hC5.1, cell_on hbw6 hC5.2.1, cell_on hbw6 hC5.2.2⟩
        have HB6 := Lib.hid (HB5.out.trans (hbw6.mono hs5))
        have HPB := Lib.hid hpb
        have HOB := Lib.hid (RS.of_owns hob)
        have HOA6 := Lib.hid ((HOA5.out.below hbw6).mono hbw6.size)
        have hs6 := HB6.out.size
        clear hob hpb hbw6 HOH HOA5
        refine hK _ _ hC6 ?_
        simp only [Act.put, List.setIfInBounds_toArray, List.set_cons_succ, List.set_cons_zero]
        refine Lim.stepR 10 (fun _ => trivial) rfl (by kernel_rfl) (fun _ _ _ _ h => h) hC6 rfl ?_; apply Exists.intro; refine ⟨?_, ?_⟩
        · rintro w ⟨r1, r2, r3⟩; go_simp; try with_reducible rfl
        simp only [Act.put, List.setIfInBounds_toArray, List.set_cons_succ, List.set_cons_zero]
        refine Lim.stepR 11 (fun _ => trivial) rfl (by kernel_rfl) (fun _ _ _ _ h => h) hC6 rfl ?_; apply Exists.intro; refine ⟨?_, ?_⟩
        · rintro w ⟨r1, r2, r3⟩; go_simp; try with_reducible rfl
        simp only [Act.put, List.setIfInBounds_toArray, List.set_cons_succ, List.set_cons_zero]
        refine Lim.stepD (by kernel_rfl) ?_
        have BR6 : Below w.heap.size w w6 := HBD.out.trans (HB6.out.mono HBD.out.size)
        obtain ⟨aa, acap, rfl, hac⟩ := HOA6.out
        obtain ⟨ba, bcap, rfl, hbc⟩ := HOB.out
        have HAB := Lib.hid (And.intro hac hbc)
        obtain ⟨i0, hi, hz0, hz1, hz2⟩ := info_parts infoSpan
        have HI := Lib.hid (And.intro hi (And.intro hz0 (And.intro hz1 hz2)))
        have HNP : Hid (∀ k, k < ss.length → a k = 10001 → pspan a b k = ((-1), (-1))) := Lib.hid (fun k hk h => by
          have h1 := low_le_high HG.out HZ.out.2.2.1 HPA.out HPB.out (c := k) hk
          have h2 := HPB.out.top k hk
          exact if_pos ⟨h, by omega⟩)
        have HNQ : Hid (∀ k, ¬ a k = 10001 → pspan a b k = (a k, b k)) := Lib.hid (fun k h => if_neg (fun h2 => h h2.1))
        clear hi hz0 hz1 hz2 hac hbc hC hC3 hC4 hC5 hC6 CP CE HOA6 HOB
        go_wp2
        go_loopw [9, 10] (fun v i W => ∃ k : Nat, k ≤ ss.length ∧ i = .int .i64 k ∧ W.ownsRow w6.heap.size 54 2 v k (spans ((List.range k).map (pspan a b))) ∧ Below w6.heap.size w6 W) (fun _ i _ => ss.length - (intOf i).toNat)
        case atStart => exact ⟨0, Nat.zero_le _, rfl, World.ownsRow_nil _ _ _ _, Below.refl _ _⟩
        case round =>
          obtain ⟨k, hk, rfl, hown, hbr⟩ := hrel
          have hsr := hbr.size
          have HO := Lib.hid hown
          clear hown
          by_cases hlt : k < ss.length
          · obtain ⟨ab, aoff, rfl, hab, hacell⟩ := HAB.out.1 (ints_ne (by simp; omega))
            obtain ⟨bb, boff, rfl, hbb, hbcell⟩ := HAB.out.2 (ints_ne (by simp; omega))
            have hkk : k < 100 := by have := HLS.out; omega
            have HXB : Hid (ab < w6.heap.size ∧ bb < w6.heap.size) := Lib.hid ⟨hab, hbb⟩
            obtain ⟨x, hx⟩ : ∃ x, x = a k := ⟨_, rfl⟩
            obtain ⟨y, hy⟩ : ∃ y, y = b k := ⟨_, rfl⟩
            have q0 : wr.cell? ⟨ab, aoff + k, none⟩ = some (.int .i64 x) := by rw [hx]; exact cell_on hbr (hacell k _ (by simp [ints, hlt]))
            have q1 : wr.cell? ⟨bb, boff + k, none⟩ = some (.int .i64 y) := by rw [hy]; exact cell_on hbr (hbcell k _ (by simp [ints, hlt]))
            have HX := Lib.hid (And.intro hx hy)
            clear hx hy hacell hbcell
            by_cases hx1 : x = 10001
            · subst hx1
              have HS : Hid (spans ((List.range (k + 1)).map (pspan a b)) = spans ((List.range k).map (pspan a b)) ++ [.int .i64 (-1), .int .i64 (-1)]) := Lib.hid (by
                rw [List.range_succ, List.map_append, List.map_singleton, spans_snoc, HNP.out k hlt HX.out.1.symm])
              go_wp2_with (at_builtin; refine wpList_append_own _ rfl _ _ 22 rfl w6.heap.size 54 i0 (.agg #[.int .i64 0, .int .i64 0]) 2 16 Try.underlying22 HI.out.1 HI.out.2.1 HI.out.2.2.1 HI.out.2.2.2 rfl (by decide) _ _ _ rfl (HO.out.alloc _) ⟨wr.heap.size, 0, none⟩ 1 1 [.int .i64 (-1), .int .i64 (-1)] rfl rfl (cell_two_new _ rfl _ _ _) (by simp [Value.oneCell']) (by unfold maxLen; omega) (by omega) (by simp; omega) ?_; intro v' w8 hown8 hgrow _)
              have HB8 : Below w6.heap.size w6 w8 := (hbr.alloc hsr _).grown hgrow (by simp; omega) (fun j e => by have := HO.out.lt j e; omega)
              clear hgrow
              go_wp2
              go_roundw
              case rel => exact ⟨k + 1, by omega, by go_num, by rw [HS.out]; exact hown8, HB8⟩
              case measure => simp [intOf]; omega
            · have hx2 : (x == 10001) = false := by rw [beq_eq_false_iff_ne]; exact hx1
              have HS : Hid (spans ((List.range (k + 1)).map (pspan a b)) = spans ((List.range k).map (pspan a b)) ++ [.int .i64 x, .int .i64 y]) := Lib.hid (by
                rw [List.range_succ, List.map_append, List.map_singleton, spans_snoc, HNQ.out k (by rw [← HX.out.1]; exact hx1), ← HX.out.1, ← HX.out.2])
              clear hx1
              go_wp2_with fail
              have hC : (fun W => W.cell? ⟨ab, aoff + k, none⟩ = some (.int .i64 x) ∧ W.cell? ⟨bb, boff + k, none⟩ = some (.int .i64 y)) wr.drew := ⟨q0, q1⟩
              refine Lim.regC' (fun W => W.cell? ⟨ab, aoff + k, none⟩ = some (.int .i64 x) ∧ W.cell? ⟨bb, boff + k, none⟩ = some (.int .i64 y)) [] #[false, false, false, false, false, false, false, false, false, false, false, false, false] (by kernel_rfl) rfl ?_
              refine Lim.stepR 0 (fun _ => trivial) rfl (by kernel_rfl) (fun _ _ _ _ h => h) hC rfl ?_; apply Exists.intro; refine ⟨?_, ?_⟩
              · rintro w ⟨r1, r2⟩; go_simp; try with_reducible rfl
              simp only [Act.put, List.setIfInBounds_toArray, List.set_cons_succ, List.set_cons_zero]
              refine Lim.stepR 1 (fun _ => trivial) rfl (by kernel_rfl) (fun _ _ _ _ h => h) hC rfl ?_; apply Exists.intro; refine ⟨?_, ?_⟩
              · rintro w ⟨r1, r2⟩; go_simp; try with_reducible rfl
              simp only [Act.put, List.setIfInBounds_toArray, List.set_cons_succ, List.set_cons_zero]
              refine Lim.stepR 2 (fun _ => trivial) rfl (by kernel_rfl) (fun _ _ _ _ h => h) hC rfl ?_; apply Exists.intro; refine ⟨?_, ?_⟩
              · rintro w ⟨r1, r2⟩; go_simp; try with_reducible rfl
              simp only [Act.put, List.setIfInBounds_toArray, List.set_cons_succ, List.set_cons_zero]
              refine Lim.stepR 3 (fun _ => trivial) rfl (by kernel_rfl) (fun _ _ _ _ h => h) hC rfl ?_; apply Exists.intro; refine ⟨?_, ?_⟩
              · rintro w ⟨r1, r2⟩; go_simp; try with_reducible rfl
              simp only [Act.put, List.setIfInBounds_toArray, List.set_cons_succ, List.set_cons_zero]
              refine Lim.stepR 4 (fun _ => trivial) rfl (by kernel_rfl) (fun _ _ _ _ h => h) hC rfl ?_; apply Exists.intro; refine ⟨?_, ?_⟩
              · rintro w ⟨r1, r2⟩; go_simp; try with_reducible rfl
              simp only [Act.put, List.setIfInBounds_toArray, List.set_cons_succ, List.set_cons_zero]
              refine Lim.stepR 5 (fun _ => trivial) rfl (by kernel_rfl) (fun _ _ _ _ h => h) hC rfl ?_; apply Exists.intro; refine ⟨?_, ?_⟩
              · rintro w ⟨r1, r2⟩; go_simp; try with_reducible rfl
              simp only [Act.put, List.setIfInBounds_toArray, List.set_cons_succ, List.set_cons_zero]
              refine Lim.stepR 6 (fun _ => trivial) rfl (by kernel_rfl) (fun _ _ _ _ h => h) hC rfl ?_; apply Exists.intro; refine ⟨?_, ?_⟩
              · rintro w ⟨r1, r2⟩; go_simp; try with_reducible rfl
              simp only [Act.put, List.setIfInBounds_toArray, List.set_cons_succ, List.set_cons_zero]
              refine Lim.stepR 7 (fun _ => trivial) rfl (by kernel_rfl) (fun _ _ _ _ h => h) hC rfl ?_; apply Exists.intro; refine ⟨?_, ?_⟩
              · rintro w ⟨r1, r2⟩; go_simp; try with_reducible rfl
              simp only [Act.put, List.setIfInBounds_toArray, List.set_cons_succ, List.set_cons_zero]
              refine Lim.stepR 8 (fun _ => trivial) rfl (by kernel_rfl) (fun _ _ _ _ h => h) hC rfl ?_; apply Exists.intro; refine ⟨?_, ?_⟩
              · rintro w ⟨r1, r2⟩; go_simp; try with_reducible rfl
              simp only [Act.put, List.setIfInBounds_toArray, List.set_cons_succ, List.set_cons_zero]
              refine Lim.stepR 9 (fun _ => trivial) rfl (by kernel_rfl) (fun _ _ _ _ h => h) hC rfl ?_; apply Exists.intro; refine ⟨?_, ?_⟩
              · rintro w ⟨r1, r2⟩; go_simp; try with_reducible rfl
              simp only [Act.put, List.setIfInBounds_toArray, List.set_cons_succ, List.set_cons_zero]
              refine Lim.stepE 10 (fun _ => trivial) rfl (by kernel_rfl) rfl (fun K hK => ?_)   -- E buildSlice
              go_simp
              have hC2 : (fun W => W.cell? ⟨ab, aoff + k, none⟩ = some (.int .i64 x) ∧ W.cell? ⟨bb, boff + k, none⟩ = some (.int .i64 y)) (wr.alloc (.cells #[.int .i64 x, .int .i64 y] 54)).drew := ⟨cell_al _ q0, cell_al _ q1⟩
              refine hK _ _ hC2 ?_
              simp only [Act.put, List.setIfInBounds_toArray, List.set_cons_succ, List.set_cons_zero]
              refine Lim.stepE 11 (fun _ => trivial) rfl (by kernel_rfl) rfl (fun K hK => ?_)   -- E call
              obtain ⟨v', w8, hrun, hown8, hgrow, -⟩ := run_append_own (P := Try.prog) (wr.alloc (.cells #[.int .i64 x, .int .i64 y] 54)).drew w6.heap.size 22 22 54 i0 (.agg #[.int .i64 0, .int .i64 0]) 2 16 Try.underlying22 HI.out.1 HI.out.2.1 HI.out.2.2.1 HI.out.2.2.2 rfl (by decide) _ _ _ (HO.out.alloc (.cells #[.int .i64 x, .int .i64 y] 54)).drew ⟨wr.heap.size, 0, none⟩ 1 1 [.int .i64 x, .int .i64 y] rfl (cell_two_new wr rfl _ _ _) (by simp [Value.oneCell']) (by unfold maxLen; omega) (by omega) (by simp; omega)
              have hC3 : (fun W => W.cell? ⟨ab, aoff + k, none⟩ = some (.int .i64 x) ∧ W.cell? ⟨bb, boff + k, none⟩ = some (.int .i64 y)) w8 := ⟨hgrow.cell hC2.1 (fun e => by have := HO.out.lt _ e.symm; have := HXB.out; simp at *; omega), hgrow.cell hC2.2 (fun e => by have := HO.out.lt _ e.symm; have := HXB.out; simp at *; omega)⟩
              refine Lim.append_upon rfl rfl rfl hrun (hK _ _ hC3 ?_)
              simp only [Act.put, List.setIfInBounds_toArray, List.set_cons_succ, List.set_cons_zero]
              refine Lim.stepR 12 (fun _ => trivial) rfl (by kernel_rfl) (fun _ _ _ _ h => h) hC3 rfl ?_; apply Exists.intro; refine ⟨?_, ?_⟩
              · rintro w ⟨r1, r2⟩; go_simp; try with_reducible rfl
              simp only [Act.put, List.setIfInBounds_toArray, List.set_cons_succ, List.set_cons_zero]
              refine Lim.stepD (by kernel_rfl) ?_
              have HB8 : Below w6.heap.size w6 w8 := (hbr.alloc hsr _).drew.grown hgrow (by simp; omega) (fun j e => by have := HO.out.lt j e; omega)
              clear hgrow hC hC2 hC3 q0 q1
              go_wp2
              go_roundw
              case rel => exact ⟨k + 1, by omega, by go_num, by rw [HS.out]; exact hown8, HB8⟩
              case measure => simp [intOf]; omega
          · obtain rfl : k = ss.length := by omega
            go_wp2
            go_ret2
            refine ⟨_, _, (List.range hs.length).map (pspan a b), rfl, BR6.trans (hbr.mono BR6.size), .inr (.inr ⟨HE.out, HSEA.out, rfl, a, b, HPA.out, HPB.out, rfl⟩), ?_⟩
            have h := owns_mono HO.out BR6.size
            rw [HLS.out] at h
            simpa using h
      · have hC : (fun W => W.cell? ⟨w.heap.size, 0, none⟩ = some (.int .i64 wd) ∧ W.cell? ⟨w.heap.size, 1, none⟩ = some (.slice ha hs.length hcap) ∧ W.cell? ⟨w.heap.size, 2, none⟩ = some (.slice sa ss.length scap)) w1.drew := ⟨r0, r1, r2⟩
        have HBD : Hid (Below w.heap.size w w1.drew) := Lib.hid BR.drew
        have CE : Hid (∀ (b : Bool) (W : World), Below w1.drew.heap.size w1.drew W → Calls Try.prog 78 #[.agg #[.int .i64 wd, .slice ha hs.length hcap, .slice sa ss.length scap], .bool b] W fun e w' => ∃ v, e = .returned v ∧ w'.ownsRow W.heap.size 3 1 v hs.length (ints (hs.map (endOf b))) ∧ Below W.heap.size W w') := Lib.hid (fun b W hb => by
          have hbW := HBD.out.trans (hb.mono HBD.out.size)
          exact ends_any (B := B) hl (by have := hbW.size; omega) (HHS.out.1.below (hbW.mono hB)))
        have CP : Hid (∀ (b : Bool) (s : Int) (v : Value) (W : World), Below w1.drew.heap.size w1.drew W → RS W.heap.size W v hs.length (ints (hs.map (endOf b))) → Calls Try.prog 60 #[.agg #[.int .i64 wd, .slice ha hs.length hcap, .slice sa ss.length scap], v, .int .i64 s] W fun e w' => ∃ v p, e = .returned v ∧ w'.ownsRow W.heap.size 3 1 v ss.length (ints ((List.range ss.length).map p)) ∧ IsPass ⟨wd.toNat, hs, ss⟩ (if b then highT ⟨wd.toNat, hs, ss⟩ else lowT ⟨wd.toNat, hs, ss⟩) s p ∧ Below W.heap.size W w') := Lib.hid (fun b s v W hb hv => by
          have hbW := HBD.out.trans (hb.mono HBD.out.size)
          have h := Pass_any (B := W.heap.size) (g := ⟨wd.toNat, hs, ss⟩) (hv := .slice ha hs.length hcap) (sv := .slice sa ss.length scap) (T := hs.map (endOf b)) (tv := v) (s := s) (w := W) HG.out (by show (hs.map (endOf b)).length = ss.length; rw [List.length_map]; exact HLS.out.symm) (Nat.le_refl _) ((HHS.out.2.below (hbW.mono hB)).mono (by have := hbW.size; omega)) (by rw [List.length_map]; exact hv)
          have e : (((⟨wd.toNat, hs, ss⟩ : Gd).wd : Nat) : Int) = wd := HWD.out
          rw [e, map_endOf hs b wd.toNat ss] at h
          exact h)
        clear r0 r1 r2
        go_wp2_with fail
        refine Lim.regC' (fun W => W.cell? ⟨w.heap.size, 0, none⟩ = some (.int .i64 wd) ∧ W.cell? ⟨w.heap.size, 1, none⟩ = some (.slice ha hs.length hcap) ∧ W.cell? ⟨w.heap.size, 2, none⟩ = some (.slice sa ss.length scap)) [] #[false, false, false, false, false, false, false, false, false, false, false, false] (by kernel_rfl) rfl ?_
        refine Lim.stepR 0 (fun _ => trivial) rfl (by kernel_rfl) (fun _ _ _ _ h => h) hC rfl ?_; apply Exists.intro; refine ⟨?_, ?_⟩
        · rintro w ⟨r1, r2, r3⟩; go_simp; try with_reducible rfl
        simp only [Act.put, List.setIfInBounds_toArray, List.set_cons_succ, List.set_cons_zero]
        refine Lim.stepR 1 (fun _ => trivial) rfl (by kernel_rfl) (fun _ _ _ _ h => h) hC rfl ?_; apply Exists.intro; refine ⟨?_, ?_⟩
        · rintro w ⟨r1, r2, r3⟩; go_simp; try with_reducible rfl
        simp only [Act.put, List.setIfInBounds_toArray, List.set_cons_succ, List.set_cons_zero]
        refine Lim.stepR 3 (fun _ => trivial) rfl (by kernel_rfl) (fun _ _ _ _ h => h) hC rfl ?_; apply Exists.intro; refine ⟨?_, ?_⟩
        · rintro w ⟨r1, r2, r3⟩; go_simp; try with_reducible rfl
        simp only [Act.put, List.setIfInBounds_toArray, List.set_cons_succ, List.set_cons_zero]
        refine Lim.stepR 5 (fun _ => trivial) rfl (by kernel_rfl) (fun _ _ _ _ h => h) hC rfl ?_; apply Exists.intro; refine ⟨?_, ?_⟩
        · rintro w ⟨r1, r2, r3⟩; go_simp; try with_reducible rfl
        simp only [Act.put, List.setIfInBounds_toArray, List.set_cons_succ, List.set_cons_zero]
        refine Lim.stepR 6 (fun _ => trivial) rfl (by kernel_rfl) (fun _ _ _ _ h => h) hC rfl ?_; apply Exists.intro; refine ⟨?_, ?_⟩
        · rintro w ⟨r1, r2, r3⟩; go_simp; try with_reducible rfl
        simp only [Act.put, List.setIfInBounds_toArray, List.set_cons_succ, List.set_cons_zero]
        refine Lim.stepR 8 (fun _ => trivial) rfl (by kernel_rfl) (fun _ _ _ _ h => h) hC rfl ?_; apply Exists.intro; refine ⟨?_, ?_⟩
        · rintro w ⟨r1, r2, r3⟩; go_simp; try with_reducible rfl
        simp only [Act.put, List.setIfInBounds_toArray, List.set_cons_succ, List.set_cons_zero]
        refine Lim.stepE 2 (fun _ => trivial) rfl (by kernel_rfl) rfl (fun K hK => ?_)
        go_simp
        refine ⟨rfl, (callsIn_wide.2 (CE.out false _ (Below.refl _ _))).mono ?_⟩
        rintro e w3 ⟨vl, rfl, hol, hbw3⟩
        have hC3 : (fun W => W.cell? ⟨w.heap.size, 0, none⟩ = some (.int .i64 wd) ∧ W.cell? ⟨w.heap.size, 1, none⟩ = some (.slice ha hs.length hcap) ∧ W.cell? ⟨w.heap.size, 2, none⟩ = some (.slice sa ss.length scap)) w3 := ⟨cell_on hbw3 hC.1, cell_on hbw3 hC.2.1, cell_on hbw3 hC.2.2⟩
        have HB3 := Lib.hid hbw3
        have HOL := Lib.hid (RS.of_owns hol)
        have hs3 := hbw3.size
        clear hol hbw3
        refine hK _ _ hC3 ?_
        simp only [Act.put, List.setIfInBounds_toArray, List.set_cons_succ, List.set_cons_zero]
        refine Lim.stepE 4 (fun _ => trivial) rfl (by kernel_rfl) rfl (fun K hK => ?_)
        go_simp
        refine ⟨rfl, (callsIn_wide.2 (CP.out false 2 _ _ HB3.out HOL.out)).mono ?_⟩
        rintro e w4 ⟨va, a, rfl, hoa, hpa, hbw4⟩
        have hC4 : (fun W => W.cell? ⟨w.heap.size, 0, none⟩ = some (.int .i64 wd) ∧ W.cell? ⟨w.heap.size, 1, none⟩ = some (.slice ha hs.length hcap) ∧ W.cell? ⟨w.heap.size, 2, none⟩ = some (.slice sa ss.length scap)) w4 := ⟨cell_on hbw4 hC3.1, cell_on hbw4 hC3.2.1, cell_on hbw4 hC3.2.2⟩
        have HB4 := Lib.hid (HB3.out.trans (hbw4.mono hs3))
        have HPA := Lib.hid hpa
        have HOA := Lib.hid (RS.of_owns hoa)
        have hs4 := HB4.out.size
        clear hoa hpa hbw4 HOL
        refine hK _ _ hC4 ?_
        simp only [Act.put, List.setIfInBounds_toArray, List.set_cons_succ, List.set_cons_zero]
        refine Lim.stepE 7 (fun _ => trivial) rfl (by kernel_rfl) rfl (fun K hK => ?_)
        go_simp
        refine ⟨rfl, (callsIn_wide.2 (CE.out true _ HB4.out)).mono ?_⟩
        rintro e w5 ⟨vh, rfl, hoh, hbw5⟩
        have hC5 : (fun W => W.cell? ⟨w.heap.size, 0, none⟩ = some (.int .i64 wd) ∧ W.cell? ⟨w.heap.size, 1, none⟩ = some (.slice ha hs.length hcap) ∧ W.cell? ⟨w.heap.size, 2, none⟩ = some (.slice sa ss.length scap)) w5 := ⟨cell_on hbw5 hC4.1, cell_on hbw5 hC4.2.1, cell_on hbw5 hC4.2.2⟩
        have HB5 := Lib.hid (HB4.out.trans (hbw5.mono hs4))
        have HOH := Lib.hid (RS.of_owns hoh)
        have HOA5 := Lib.hid ((HOA.out.below hbw5).mono hbw5.size)
        have hs5 := HB5.out.size
        clear hoh hbw5 HOA
        refine hK _ _ hC5 ?_
        simp only [Act.put, List.setIfInBounds_toArray, List.set_cons_succ, List.set_cons_zero]
        refine Lim.stepE 9 (fun _ => trivial) rfl (by kernel_rfl) rfl (fun K hK => ?_)
        go_simp
        refine ⟨rfl, (callsIn_wide.2 (CP.out true 2 _ _ HB5.out HOH.out)).mono ?_⟩
        rintro e w6 ⟨vb, b, rfl, hob, hpb, hbw6⟩
        have hC6 : (fun W => W.cell? ⟨w.heap.size, 0, none⟩ = some (.int .i64 wd) ∧ W.cell? ⟨w.heap.size, 1, none⟩ = some (.slice ha hs.length hcap) ∧ W.cell? ⟨w.heap.size, 2, none⟩ = some (.slice sa ss.length scap)) w6 := ⟨cell_on hbw6 hC5.1, cell_on hbw6 hC5.2.1, cell_on hbw6 hC5.2.2⟩
        have HB6 := Lib.hid (HB5.out.trans (hbw6.mono hs5))
        have HPB := Lib.hid hpb
        have HOB := Lib.hid (RS.of_owns hob)
        have HOA6 := Lib.hid ((HOA5.out.below hbw6).mono hbw6.size)
        have hs6 := HB6.out.size
        clear hob hpb hbw6 HOH HOA5
        refine hK _ _ hC6 ?_
        simp only [Act.put, List.setIfInBounds_toArray, List.set_cons_succ, List.set_cons_zero]
        refine Lim.stepR 10 (fun _ => trivial) rfl (by kernel_rfl) (fun _ _ _ _ h => h) hC6 rfl ?_; apply Exists.intro; refine ⟨?_, ?_⟩
        · rintro w ⟨r1, r2, r3⟩; go_simp; try with_reducible rfl
        simp only [Act.put, List.setIfInBounds_toArray, List.set_cons_succ, List.set_cons_zero]
        refine Lim.stepR 11 (fun _ => trivial) rfl (by kernel_rfl) (fun _ _ _ _ h => h) hC6 rfl ?_; apply Exists.intro; refine ⟨?_, ?_⟩
        · rintro w ⟨r1, r2, r3⟩; go_simp; try with_reducible rfl
        simp only [Act.put, List.setIfInBounds_toArray, List.set_cons_succ, List.set_cons_zero]
        refine Lim.stepD (by kernel_rfl) ?_
        have BR6 : Below w.heap.size w w6 := HBD.out.trans (HB6.out.mono HBD.out.size)
        obtain ⟨aa, acap, rfl, hac⟩ := HOA6.out
        obtain ⟨ba, bcap, rfl, hbc⟩ := HOB.out
        have HAB := Lib.hid (And.intro hac hbc)
        obtain ⟨i0, hi, hz0, hz1, hz2⟩ := info_parts infoSpan
        have HI := Lib.hid (And.intro hi (And.intro hz0 (And.intro hz1 hz2)))
        have HNP : Hid (∀ k, k < ss.length → a k = 10001 → pspan a b k = ((-1), (-1))) := Lib.hid (fun k hk h => by
          have h1 := low_le_high HG.out HZ.out.2.2.1 HPA.out HPB.out (c := k) hk
          have h2 := HPB.out.top k hk
          exact if_pos ⟨h, by omega⟩)
        have HNQ : Hid (∀ k, ¬ a k = 10001 → pspan a b k = (a k, b k)) := Lib.hid (fun k h => if_neg (fun h2 => h h2.1))
        clear hi hz0 hz1 hz2 hac hbc hC hC3 hC4 hC5 hC6 CP CE HOA6 HOB
        go_wp2
        go_loopw [9, 10] (fun v i W => ∃ k : Nat, k ≤ ss.length ∧ i = .int .i64 k ∧ W.ownsRow w6.heap.size 54 2 v k (spans ((List.range k).map (pspan a b))) ∧ Below w6.heap.size w6 W) (fun _ i _ => ss.length - (intOf i).toNat)
        case atStart => exact ⟨0, Nat.zero_le _, rfl, World.ownsRow_nil _ _ _ _, Below.refl _ _⟩
        case round =>
          obtain ⟨k, hk, rfl, hown, hbr⟩ := hrel
          have hsr := hbr.size
          have HO := Lib.hid hown
          clear hown
          by_cases hlt : k < ss.length
          · obtain ⟨ab, aoff, rfl, hab, hacell⟩ := HAB.out.1 (ints_ne (by simp; omega))
            obtain ⟨bb, boff, rfl, hbb, hbcell⟩ := HAB.out.2 (ints_ne (by simp; omega))
            have hkk : k < 100 := by have := HLS.out; omega
            have HXB : Hid (ab < w6.heap.size ∧ bb < w6.heap.size) := Lib.hid ⟨hab, hbb⟩
            obtain ⟨x, hx⟩ : ∃ x, x = a k := ⟨_, rfl⟩
            obtain ⟨y, hy⟩ : ∃ y, y = b k := ⟨_, rfl⟩
            have q0 : wr.cell? ⟨ab, aoff + k, none⟩ = some (.int .i64 x) := by rw [hx]; exact cell_on hbr (hacell k _ (by simp [ints, hlt]))
            have q1 : wr.cell? ⟨bb, boff + k, none⟩ = some (.int .i64 y) := by rw [hy]; exact cell_on hbr (hbcell k _ (by simp [ints, hlt]))
            have HX := Lib.hid (And.intro hx hy)
            clear hx hy hacell hbcell
            by_cases hx1 : x = 10001
            · subst hx1
              have HS : Hid (spans ((List.range (k + 1)).map (pspan a b)) = spans ((List.range k).map (pspan a b)) ++ [.int .i64 (-1), .int .i64 (-1)]) := Lib.hid (by
                rw [List.range_succ, List.map_append, List.map_singleton, spans_snoc, HNP.out k hlt HX.out.1.symm])
              go_wp2_with (at_builtin; refine wpList_append_own _ rfl _ _ 22 rfl w6.heap.size 54 i0 (.agg #[.int .i64 0, .int .i64 0]) 2 16 Try.underlying22 HI.out.1 HI.out.2.1 HI.out.2.2.1 HI.out.2.2.2 rfl (by decide) _ _ _ rfl (HO.out.alloc _) ⟨wr.heap.size, 0, none⟩ 1 1 [.int .i64 (-1), .int .i64 (-1)] rfl rfl (cell_two_new _ rfl _ _ _) (by simp [Value.oneCell']) (by unfold maxLen; omega) (by omega) (by simp; omega) ?_; intro v' w8 hown8 hgrow _)
              have HB8 : Below w6.heap.size w6 w8 := (hbr.alloc hsr _).grown hgrow (by simp; omega) (fun j e => by have := HO.out.lt j e; omega)
              clear hgrow
              go_wp2
              go_roundw
              case rel => exact ⟨k + 1, by omega, by go_num, by rw [HS.out]; exact hown8, HB8⟩
              case measure => simp [intOf]; omega
            · have hx2 : (x == 10001) = false := by rw [beq_eq_false_iff_ne]; exact hx1
              have HS : Hid (spans ((List.range (k + 1)).map (pspan a b)) = spans ((List.range k).map (pspan a b)) ++ [.int .i64 x, .int .i64 y]) := Lib.hid (by
                rw [List.range_succ, List.map_append, List.map_singleton, spans_snoc, HNQ.out k (by rw [← HX.out.1]; exact hx1), ← HX.out.1, ← HX.out.2])
              clear hx1
              go_wp2_with fail
              have hC : (fun W => W.cell? ⟨ab, aoff + k, none⟩ = some (.int .i64 x) ∧ W.cell? ⟨bb, boff + k, none⟩ = some (.int .i64 y)) wr.drew := ⟨q0, q1⟩
              refine Lim.regC' (fun W => W.cell? ⟨ab, aoff + k, none⟩ = some (.int .i64 x) ∧ W.cell? ⟨bb, boff + k, none⟩ = some (.int .i64 y)) [] #[false, false, false, false, false, false, false, false, false, false, false, false, false] (by kernel_rfl) rfl ?_
              refine Lim.stepR 0 (fun _ => trivial) rfl (by kernel_rfl) (fun _ _ _ _ h => h) hC rfl ?_; apply Exists.intro; refine ⟨?_, ?_⟩
              · rintro w ⟨r1, r2⟩; go_simp; try with_reducible rfl
              simp only [Act.put, List.setIfInBounds_toArray, List.set_cons_succ, List.set_cons_zero]
              refine Lim.stepR 1 (fun _ => trivial) rfl (by kernel_rfl) (fun _ _ _ _ h => h) hC rfl ?_; apply Exists.intro; refine ⟨?_, ?_⟩
              · rintro w ⟨r1, r2⟩; go_simp; try with_reducible rfl
              simp only [Act.put, List.setIfInBounds_toArray, List.set_cons_succ, List.set_cons_zero]
              refine Lim.stepR 2 (fun _ => trivial) rfl (by kernel_rfl) (fun _ _ _ _ h => h) hC rfl ?_; apply Exists.intro; refine ⟨?_, ?_⟩
              · rintro w ⟨r1, r2⟩; go_simp; try with_reducible rfl
              simp only [Act.put, List.setIfInBounds_toArray, List.set_cons_succ, List.set_cons_zero]
              refine Lim.stepR 3 (fun _ => trivial) rfl (by kernel_rfl) (fun _ _ _ _ h => h) hC rfl ?_; apply Exists.intro; refine ⟨?_, ?_⟩
              · rintro w ⟨r1, r2⟩; go_simp; try with_reducible rfl
              simp only [Act.put, List.setIfInBounds_toArray, List.set_cons_succ, List.set_cons_zero]
              refine Lim.stepR 4 (fun _ => trivial) rfl (by kernel_rfl) (fun _ _ _ _ h => h) hC rfl ?_; apply Exists.intro; refine ⟨?_, ?_⟩
              · rintro w ⟨r1, r2⟩; go_simp; try with_reducible rfl
              simp only [Act.put, List.setIfInBounds_toArray, List.set_cons_succ, List.set_cons_zero]
              refine Lim.stepR 5 (fun _ => trivial) rfl (by kernel_rfl) (fun _ _ _ _ h => h) hC rfl ?_; apply Exists.intro; refine ⟨?_, ?_⟩
              · rintro w ⟨r1, r2⟩; go_simp; try with_reducible rfl
              simp only [Act.put, List.setIfInBounds_toArray, List.set_cons_succ, List.set_cons_zero]
              refine Lim.stepR 6 (fun _ => trivial) rfl (by kernel_rfl) (fun _ _ _ _ h => h) hC rfl ?_; apply Exists.intro; refine ⟨?_, ?_⟩
              · rintro w ⟨r1, r2⟩; go_simp; try with_reducible rfl
              simp only [Act.put, List.setIfInBounds_toArray, List.set_cons_succ, List.set_cons_zero]
              refine Lim.stepR 7 (fun _ => trivial) rfl (by kernel_rfl) (fun _ _ _ _ h => h) hC rfl ?_; apply Exists.intro; refine ⟨?_, ?_⟩
              · rintro w ⟨r1, r2⟩; go_simp; try with_reducible rfl
              simp only [Act.put, List.setIfInBounds_toArray, List.set_cons_succ, List.set_cons_zero]
              refine Lim.stepR 8 (fun _ => trivial) rfl (by kernel_rfl) (fun _ _ _ _ h => h) hC rfl ?_; apply Exists.intro; refine ⟨?_, ?_⟩
              · rintro w ⟨r1, r2⟩; go_simp; try with_reducible rfl
              simp only [Act.put, List.setIfInBounds_toArray, List.set_cons_succ, List.set_cons_zero]
              refine Lim.stepR 9 (fun _ => trivial) rfl (by kernel_rfl) (fun _ _ _ _ h => h) hC rfl ?_; apply Exists.intro; refine ⟨?_, ?_⟩
              · rintro w ⟨r1, r2⟩; go_simp; try with_reducible rfl
              simp only [Act.put, List.setIfInBounds_toArray, List.set_cons_succ, List.set_cons_zero]
              refine Lim.stepE 10 (fun _ => trivial) rfl (by kernel_rfl) rfl (fun K hK => ?_)   -- E buildSlice
              go_simp
              have hC2 : (fun W => W.cell? ⟨ab, aoff + k, none⟩ = some (.int .i64 x) ∧ W.cell? ⟨bb, boff + k, none⟩ = some (.int .i64 y)) (wr.alloc (.cells #[.int .i64 x, .int .i64 y] 54)).drew := ⟨cell_al _ q0, cell_al _ q1⟩
              refine hK _ _ hC2 ?_
              simp only [Act.put, List.setIfInBounds_toArray, List.set_cons_succ, List.set_cons_zero]
              refine Lim.stepE 11 (fun _ => trivial) rfl (by kernel_rfl) rfl (fun K hK => ?_)   -- E call
              obtain ⟨v', w8, hrun, hown8, hgrow, -⟩ := run_append_own (P := Try.prog) (wr.alloc (.cells #[.int .i64 x, .int .i64 y] 54)).drew w6.heap.size 22 22 54 i0 (.agg #[.int .i64 0, .int .i64 0]) 2 16 Try.underlying22 HI.out.1 HI.out.2.1 HI.out.2.2.1 HI.out.2.2.2 rfl (by decide) _ _ _ (HO.out.alloc (.cells #[.int .i64 x, .int .i64 y] 54)).drew ⟨wr.heap.size, 0, none⟩ 1 1 [.int .i64 x, .int .i64 y] rfl (cell_two_new wr rfl _ _ _) (by simp [Value.oneCell']) (by unfold maxLen; omega) (by omega) (by simp; omega)
              have hC3 : (fun W => W.cell? ⟨ab, aoff + k, none⟩ = some (.int .i64 x) ∧ W.cell? ⟨bb, boff + k, none⟩ = some (.int .i64 y)) w8 := ⟨hgrow.cell hC2.1 (fun e => by have := HO.out.lt _ e.symm; have := HXB.out; simp at *; omega), hgrow.cell hC2.2 (fun e => by have := HO.out.lt _ e.symm; have := HXB.out; simp at *; omega)⟩
              refine Lim.append_upon rfl rfl rfl hrun (hK _ _ hC3 ?_)
              simp only [Act.put, List.setIfInBounds_toArray, List.set_cons_succ, List.set_cons_zero]
              refine Lim.stepR 12 (fun _ => trivial) rfl (by kernel_rfl) (fun _ _ _ _ h => h) hC3 rfl ?_; apply Exists.intro; refine ⟨?_, ?_⟩
              · rintro w ⟨r1, r2⟩; go_simp; try with_reducible rfl
              simp only [Act.put, List.setIfInBounds_toArray, List.set_cons_succ, List.set_cons_zero]
              refine Lim.stepD (by kernel_rfl) ?_
              have HB8 : Below w6.heap.size w6 w8 := (hbr.alloc hsr _).drew.grown hgrow (by simp; omega) (fun j e => by have := HO.out.lt j e; omega)
              clear hgrow hC hC2 hC3 q0 q1
              go_wp2
              go_roundw
              case rel => exact ⟨k + 1, by omega, by go_num, by rw [HS.out]; exact hown8, HB8⟩
              case measure => simp [intOf]; omega
          · obtain rfl : k = ss.length := by omega
            go_wp2
            go_ret2
            refine ⟨_, _, (List.range hs.length).map (pspan a b), rfl, BR6.trans (hbr.mono BR6.size), .inr (.inr ⟨HE.out, HSEA.out, rfl, a, b, HPA.out, HPB.out, rfl⟩), ?_⟩
            have h := owns_mono HO.out BR6.size
            rw [HLS.out] at h
            simpa using h
    · have c1 : (sea != 1) = true := by rw [bne, show (sea == 1) = false from by rw [beq_eq_false_iff_ne]; omega]; rfl
      have c2 : (sea != 2) = true := by rw [bne, show (sea == 2) = false from by rw [beq_eq_false_iff_ne]; omega]; rfl
      have HS : Hid (inB sea 1 2 = false) := Lib.hid (inB_false (by omega))
      clear hsea
      go_wp2
      go_ret2
      exact ⟨_, _, [], rfl, BR, .inr (.inl ⟨HE.out, HS.out, rfl, rfl⟩), World.ownsRow_nil _ _ _ _⟩
  · have he1 : (openErr wd hs ss != 0) = true := by rw [bne, show (openErr wd hs ss == 0) = false from by rw [beq_eq_false_iff_ne]; exact he]; rfl
    have HE := Lib.hid he
    clear he
    go_wp2
    go_ret2
    exact ⟨_, _, [], rfl, BR, .inl ⟨HE.out, rfl, rfl⟩, World.ownsRow_nil _ _ _ _⟩
end Go.Proofs.Ytdgibmgifgdpbaa
/-
  The saddle as the reference answers it: the contract.
-/
namespace Go.Proofs.Ytdgibmgifgdpbaa
open Go.RowKit Go.Shelf
open Lim

/-- what holds while the reference's Saddle reckons both ends, in whatever order memory is laid -/
structure SadP (w : World) (wd : Int) (hv sv : Value) (hs : List (Int × Int)) (g : Gd) (done : Nat → Bool) (x5 x14 x15 x18 x19 x20 : Value) (W : World) : Prop where
  c : Below w.heap.size w W ∧ W.cell? ⟨w.heap.size, 0, none⟩ = some (.int .i64 wd) ∧ W.cell? ⟨w.heap.size, 1, none⟩ = some hv ∧ W.cell? ⟨w.heap.size, 2, none⟩ = some sv
  s : W.cell? ⟨w.heap.size + 1, 0, none⟩ = some (.int .i64 0) ∧ W.cell? ⟨w.heap.size + 1, 1, none⟩ = some (.int .i64 0) ∧ W.frozen? ⟨w.heap.size + 1, 0, none⟩ = false ∧ W.frozen? ⟨w.heap.size + 1, 1, none⟩ = false
  d2 : done 2 = true → done 10 = false → RS W.heap.size W x14 hs.length (ints (hs.map (endOf false)))
  d3 : done 3 = true → ∃ a : Int, x15 = .int .i64 a ∧ IsSaddle g (lowT g) a
  d6 : done 6 = true → done 10 = false → RS W.heap.size W x18 hs.length (ints (hs.map (endOf true)))
  d7 : done 7 = true → ∃ b : Int, x19 = .int .i64 b ∧ IsSaddle g (highT g) b
  d8 : done 8 = true → done 3 = true ∧ done 7 = true ∧ x20 = .agg #[x15, x19]
  d9 : done 9 = true → ∃ p, x5 = .pointer (some ⟨p, 0, none⟩) ∧ w.heap.size + 1 < p ∧ ∃ u0 u1, W.cell? ⟨p, 0, none⟩ = some u0 ∧ W.cell? ⟨p, 1, none⟩ = some u1 ∧ W.frozen? ⟨p, 0, none⟩ = false ∧ W.frozen? ⟨p, 1, none⟩ = false
  d10 : done 10 = true → done 8 = true ∧ done 9 = true ∧ ∃ p, x5 = .pointer (some ⟨p, 0, none⟩) ∧ W.cell? ⟨p, 0, none⟩ = some x15 ∧ W.cell? ⟨p, 1, none⟩ = some x19
theorem SadP.grow {w : World} {wd : Int} {hv sv : Value} {hs : List (Int × Int)} {g : Gd} {done : Nat → Bool} {x5 x14 x15 x18 x19 x20 : Value} {W W' : World} (H : SadP w wd hv sv hs g done x5 x14 x15 x18 x19 x20 W) (hb : Below W.heap.size W W') :
    SadP w wd hv sv hs g done x5 x14 x15 x18 x19 x20 W' :=
  ⟨⟨H.c.1.trans (hb.mono H.c.1.size), cell_on hb H.c.2.1, cell_on hb H.c.2.2.1, cell_on hb H.c.2.2.2⟩, ⟨cell_on hb H.s.1, cell_on hb H.s.2.1, frozen_on hb H.s.1 H.s.2.2.1, frozen_on hb H.s.2.1 H.s.2.2.2⟩,
   fun h h' => ((H.d2 h h').below hb).mono hb.size, H.d3, fun h h' => ((H.d6 h h').below hb).mono hb.size, H.d7, H.d8,
   fun h => let ⟨p, h1, h2, u0, u1, h3, h4, h5, h6⟩ := H.d9 h; ⟨p, h1, h2, u0, u1, cell_on hb h3, cell_on hb h4, frozen_on hb h3 h5, frozen_on hb h4 h6⟩,
   fun h => let ⟨h1, h2, p, h3, h4, h5⟩ := H.d10 h; ⟨h1, h2, p, h3, cell_on hb h4, cell_on hb h5⟩⟩
theorem store_two {P : Program} {W : World} {p : Nat} {u0 u1 : Value} (x y : Value) (hx : x.oneCell' = true) (hy : y.oneCell' = true) (h0 : W.cell? ⟨p, 0, none⟩ = some u0) (h1 : W.cell? ⟨p, 1, none⟩ = some u1) (f0 : W.frozen? ⟨p, 0, none⟩ = false) (f1 : W.frozen? ⟨p, 1, none⟩ = false) :
    (storeCells ⟨p, 0, none⟩ [x, y]).run P W = .ok () ((W.setCell ⟨p, 0, none⟩ x).setCell ⟨p, 1, none⟩ y) := by
  have := run_storeCells_cells (P := P) p 0 [x, y] 0 W (fun j hj => by
      match j with
      | 0 => simp [h0]
      | 1 => simp [h1]
      | j + 2 => exact absurd hj (by simp)) (fun j hj => by
      match j with
      | 0 => simpa using f0
      | 1 => simpa using f1
      | j + 2 => exact absurd hj (by simp)) (fun v hv => by
      rcases List.mem_cons.1 hv with rfl | hv
      · exact hx
      · have : v = y := by simpa using hv
        rw [this]; exact hy)
  simpa [World.setCells] using this

set_option maxRecDepth 20000 in
set_option maxHeartbeats 2000000 in
theorem rsaddle_any {B : Nat} {wd : Int} {hv sv : Value} {hs : List (Int × Int)} {ss : List Int} {w : World} (hB : B ≤ w.heap.size) (hh : RS B w hv hs.length (spans hs)) (hss : RS B w sv ss.length (ints ss)) :
    Calls Try.prog 44 #[.agg #[.int .i64 wd, hv, sv]] w fun e w' => ∃ x y er : Int, e = .returned (.tuple #[.agg #[.int .i64 x, .int .i64 y], .int .i64 er]) ∧ SadAns wd hs ss x y er ∧ Below w.heap.size w w' := by
  have B1 : Below w.heap.size w ((w.alloc (.cells #[.int .i64 wd, hv, sv] 28)).alloc (.cells #[.int .i64 0, .int .i64 0] 54)) := ((Below.refl _ w).alloc (Nat.le_refl _) _).alloc (by simp) _
  have CO := Lib.hid (rcheck_any (B := B) (wd := wd) (w := (w.alloc (.cells #[.int .i64 wd, hv, sv] 28)).alloc (.cells #[.int .i64 0, .int .i64 0] 54)) (by have := B1.size; omega) (hh.below (B1.mono hB)) (hss.below (B1.mono hB)))
  have HHS := Lib.hid (And.intro hh hss)
  obtain ⟨ha, hcap, rfl, -⟩ := hh
  obtain ⟨sa, scap, rfl, -⟩ := hss
  go_enter Try.func44, Try.ntmps44
  go_wp2_with fail
  have H0 : SadP w wd (.slice ha hs.length hcap) (.slice sa ss.length scap) hs ⟨wd.toNat, hs, ss⟩ (fun _ => false) undef undef undef undef undef undef ((w.alloc (.cells #[.int .i64 wd, .slice ha hs.length hcap, .slice sa ss.length scap] 28)).alloc (.cells #[.int .i64 0, .int .i64 0] 54)) :=
    ⟨⟨B1, by simp [go_sem], by simp [go_sem], by simp [go_sem]⟩, ⟨by simp [go_sem], by simp [go_sem], by simp [go_sem], by simp [go_sem]⟩, fun h => (by cases h), fun h => (by cases h), fun h => (by cases h), fun h => (by cases h), fun h => (by cases h), fun h => (by cases h), fun h => (by cases h)⟩
  refine CO.out.mono ?_
  clear CO
  rintro e w1 ⟨rfl, hb⟩
  have H1 := H0.grow hb
  clear H0 hb B1
  by_cases he : openErr wd hs ss = 0
  · have HE := Lib.hid he
    have HG := Lib.hid (openErr_ok he)
    have HWD : Hid (((wd.toNat : Nat) : Int) = wd) := Lib.hid (by
      have h1 := (openErr_zero he).1
      simp only [goodCount, Bool.and_eq_true, decide_eq_true_eq] at h1
      omega)
    have hl : hs.length ≤ 100 := by have := HG.out.n1; have := HG.out.hn; simp at *; omega
    have HLS : Hid (ss.length = hs.length) := Lib.hid HG.out.hn.symm
    rw [he]
    clear he
    have H2 := H1.grow (Below.refl _ w1).drew
    have hC : (fun W => W.cell? ⟨w.heap.size, 0, none⟩ = some (.int .i64 wd) ∧ W.cell? ⟨w.heap.size, 1, none⟩ = some (.slice ha hs.length hcap) ∧ W.cell? ⟨w.heap.size, 2, none⟩ = some (.slice sa ss.length scap)) w1.drew := H2.c.2
    have HH2 := Lib.hid H2
    have r0 := H1.c.2.1
    have r1 := H1.c.2.2.1
    have r2 := H1.c.2.2.2
    clear H1 H2
    have CE : Hid (∀ (b : Bool) (W : World), Below w.heap.size w W → Calls Try.prog 78 #[.agg #[.int .i64 wd, .slice ha hs.length hcap, .slice sa ss.length scap], .bool b] W fun e w' => ∃ v, e = .returned v ∧ w'.ownsRow W.heap.size 3 1 v hs.length (ints (hs.map (endOf b))) ∧ Below W.heap.size W w') := Lib.hid (fun b W hbW => by
      exact ends_any (B := B) hl (by have := hbW.size; omega) (HHS.out.1.below (hbW.mono hB)))
    have CL : Hid (∀ (b : Bool) (v : Value) (W : World), Below w.heap.size w W → RS W.heap.size W v hs.length (ints (hs.map (endOf b))) → Calls Try.prog 67 #[.agg #[.int .i64 wd, .slice ha hs.length hcap, .slice sa ss.length scap], v] W fun e w' => ∃ r : Int, e = .returned (.int .i64 r) ∧ IsSaddle ⟨wd.toNat, hs, ss⟩ (if b then highT ⟨wd.toNat, hs, ss⟩ else lowT ⟨wd.toNat, hs, ss⟩) r ∧ Below W.heap.size W w') := Lib.hid (fun b v W hbW hv => by
      have h := least_any (B := W.heap.size) (g := ⟨wd.toNat, hs, ss⟩) (hv := .slice ha hs.length hcap) (sv := .slice sa ss.length scap) (T := hs.map (endOf b)) (tv := v) (w := W) HG.out (by show (hs.map (endOf b)).length = ss.length; rw [List.length_map]; exact HLS.out.symm) (Nat.le_refl _) ((HHS.out.2.below (hbW.mono hB)).mono (by have := hbW.size; omega)) (by rw [List.length_map]; exact hv)
      have e : (((⟨wd.toNat, hs, ss⟩ : Gd).wd : Nat) : Int) = wd := HWD.out
      rw [e, map_endOf hs b wd.toNat ss] at h
      exact h)
    go_wp2_with fail
    refine Lim.regC' (fun W => W.cell? ⟨w.heap.size, 0, none⟩ = some (.int .i64 wd) ∧ W.cell? ⟨w.heap.size, 1, none⟩ = some (.slice ha hs.length hcap) ∧ W.cell? ⟨w.heap.size, 2, none⟩ = some (.slice sa ss.length scap)) [] #[false, false, false, false, false, false, false, false, false, false, false] (by kernel_rfl) rfl ?_
    refine Lim.stepR 0 (fun _ => trivial) rfl (by kernel_rfl) (fun _ _ _ _ h => h) hC rfl ?_; apply Exists.intro; refine ⟨?_, ?_⟩
    · rintro w ⟨r1, r2, r3⟩; go_simp; try with_reducible rfl
    simp only [Act.put, List.setIfInBounds_toArray, List.set_cons_succ, List.set_cons_zero]
    refine Lim.stepR 1 (fun _ => trivial) rfl (by kernel_rfl) (fun _ _ _ _ h => h) hC rfl ?_; apply Exists.intro; refine ⟨?_, ?_⟩
    · rintro w ⟨r1, r2, r3⟩; go_simp; try with_reducible rfl
    simp only [Act.put, List.setIfInBounds_toArray, List.set_cons_succ, List.set_cons_zero]
    refine Lim.stepR 4 (fun _ => trivial) rfl (by kernel_rfl) (fun _ _ _ _ h => h) hC rfl ?_; apply Exists.intro; refine ⟨?_, ?_⟩
    · rintro w ⟨r1, r2, r3⟩; go_simp; try with_reducible rfl
    simp only [Act.put, List.setIfInBounds_toArray, List.set_cons_succ, List.set_cons_zero]
    refine Lim.stepR 5 (fun _ => trivial) rfl (by kernel_rfl) (fun _ _ _ _ h => h) hC rfl ?_; apply Exists.intro; refine ⟨?_, ?_⟩
    · rintro w ⟨r1, r2, r3⟩; go_simp; try with_reducible rfl
    simp only [Act.put, List.setIfInBounds_toArray, List.set_cons_succ, List.set_cons_zero]
    clear hC r0 r1 r2
    refine Lim.parC [2, 3, 6, 7, 8, 9, 10] (fun done a W => ∃ x5 x14 x15 x18 x19 x20, a = { tmps := #[.agg #[.int .i64 wd, .slice ha hs.length hcap, .slice sa ss.length scap], .pointer (some ⟨w.heap.size, 0, none⟩), .pointer (some ⟨w.heap.size + 1, 0, none⟩), .int .i64 0, .int .i64 0, x5, .agg #[.int .i64 wd, .slice ha hs.length hcap, .slice sa ss.length scap], .int .i64 0, .int .i64 0, .bool false, undef, undef, .agg #[.int .i64 wd, .slice ha hs.length hcap, .slice sa ss.length scap], .agg #[.int .i64 wd, .slice ha hs.length hcap, .slice sa ss.length scap], x14, x15, .agg #[.int .i64 wd, .slice ha hs.length hcap, .slice sa ss.length scap], .agg #[.int .i64 wd, .slice ha hs.length hcap, .slice sa ss.length scap], x18, x19, x20, undef, undef, undef, undef, undef], defers := [] } ∧ SadP w wd (.slice ha hs.length hcap) (.slice sa ss.length scap) hs ⟨wd.toNat, hs, ss⟩ done x5 x14 x15 x18 x19 x20 W) (fun _ => trivial) (by kernel_rfl) rfl rfl ?hC ?step ?fin ⟨_, _, _, _, _, _, rfl, HH2.out⟩
    case hC => rintro done a W ⟨_, _, _, _, _, _, _, H⟩; exact H.c.2
    case step =>
      intro i o hi ho done a W hd hdep hS K hK
      obtain ⟨x5, x14, x15, x18, x19, x20, rfl, H⟩ := hS
      simp only [List.mem_cons, List.not_mem_nil, or_false] at hi
      rcases hi with rfl | rfl | rfl | rfl | rfl | rfl | rfl
      · cases ho
        have HC := CE.out false W H.c.1
        clear hdep
        go_simp
        refine ⟨rfl, (callsIn_wide.2 HC).mono ?_⟩
        rintro e W' ⟨v, rfl, hown, hb⟩
        refine hK _ _ ?_
        replace H := H.grow hb
        exact ⟨_, _, _, _, _, _, rfl, ⟨H.c, H.s, fun _ _ => RS.of_owns hown, fun h => H.d3 (by simpa using h), fun h h' => H.d6 (by simpa using h) (by simpa using h'), fun h => H.d7 (by simpa using h), fun h => H.d8 (by simpa using h), fun h => H.d9 (by simpa using h), fun h => H.d10 (by simpa using h)⟩⟩
      · cases ho
        have h2 := hdep 2 (by kernel_rfl) (by simp)
        have h10 : done 10 = false := by
          by_cases h : done 10 = true
          · have h3 := (H.d8 (H.d10 h).1).1; rw [hd] at h3; cases h3
          · simpa using h
        have HC := CL.out false x14 W H.c.1 (H.d2 h2 h10)
        clear hdep
        go_simp
        refine ⟨rfl, (callsIn_wide.2 HC).mono ?_⟩
        rintro e W' ⟨v, rfl, hsad, hb⟩
        refine hK _ _ ?_
        replace H := H.grow hb
        exact ⟨_, _, _, _, _, _, rfl, ⟨H.c, H.s, fun h h' => H.d2 (by simpa using h) (by simpa using h'), fun _ => ⟨v, rfl, hsad⟩, fun h h' => H.d6 (by simpa using h) (by simpa using h'), fun h => H.d7 (by simpa using h), fun h => by have h := H.d8 (by simpa using h); rw [hd] at h; simp at h, fun h => H.d9 (by simpa using h), fun h => by have h := H.d8 (H.d10 (by simpa using h)).1; rw [hd] at h; simp at h⟩⟩
      · cases ho
        have HC := CE.out true W H.c.1
        clear hdep
        go_simp
        refine ⟨rfl, (callsIn_wide.2 HC).mono ?_⟩
        rintro e W' ⟨v, rfl, hown, hb⟩
        refine hK _ _ ?_
        replace H := H.grow hb
        exact ⟨_, _, _, _, _, _, rfl, ⟨H.c, H.s, fun h h' => H.d2 (by simpa using h) (by simpa using h'), fun h => H.d3 (by simpa using h), fun _ _ => RS.of_owns hown, fun h => H.d7 (by simpa using h), fun h => H.d8 (by simpa using h), fun h => H.d9 (by simpa using h), fun h => H.d10 (by simpa using h)⟩⟩
      · cases ho
        have h6 := hdep 6 (by kernel_rfl) (by simp)
        have h10 : done 10 = false := by
          by_cases h : done 10 = true
          · have h3 := (H.d8 (H.d10 h).1).2.1; rw [hd] at h3; cases h3
          · simpa using h
        have HC := CL.out true x18 W H.c.1 (H.d6 h6 h10)
        clear hdep
        go_simp
        refine ⟨rfl, (callsIn_wide.2 HC).mono ?_⟩
        rintro e W' ⟨v, rfl, hsad, hb⟩
        refine hK _ _ ?_
        replace H := H.grow hb
        exact ⟨_, _, _, _, _, _, rfl, ⟨H.c, H.s, fun h h' => H.d2 (by simpa using h) (by simpa using h'), fun h => H.d3 (by simpa using h), fun h h' => H.d6 (by simpa using h) (by simpa using h'), fun _ => ⟨v, rfl, hsad⟩, fun h => by have h := H.d8 (by simpa using h); rw [hd] at h; simp at h, fun h => H.d9 (by simpa using h), fun h => by have h := H.d8 (H.d10 (by simpa using h)).1; rw [hd] at h; simp at h⟩⟩
      · cases ho
        have h3 := hdep 3 (by kernel_rfl) (by simp)
        have h7 := hdep 7 (by kernel_rfl) (by simp)
        clear hdep
        obtain ⟨aa, rfl, hsa⟩ := H.d3 h3
        obtain ⟨bb, rfl, hsb⟩ := H.d7 h7
        go_simp
        refine hK _ _ ?_
        exact ⟨_, _, _, _, _, _, rfl, ⟨H.c, H.s, fun h h' => H.d2 (by simpa using h) (by simpa using h'), fun h => H.d3 (by simpa using h), fun h h' => H.d6 (by simpa using h) (by simpa using h'), fun h => H.d7 (by simpa using h), fun _ => ⟨by simpa using h3, by simpa using h7, rfl⟩, fun h => H.d9 (by simpa using h), fun h => by have h := (H.d10 (by simpa using h)).1; rw [hd] at h; cases h⟩⟩
      · cases ho
        clear hdep
        go_simp
        refine hK _ _ ?_
        have hb : Below W.heap.size W (W.alloc (.cells #[.int .i64 0, .int .i64 0] 54)) := (Below.refl _ W).alloc (Nat.le_refl _) _
        have hlt := World.block_lt_of_cell? _ _ H.s.1
        have n0 : (W.alloc (.cells #[.int .i64 0, .int .i64 0] 54)).cell? ⟨W.heap.size, 0, none⟩ = some (.int .i64 0) := by simp [go_sem]
        have n1 : (W.alloc (.cells #[.int .i64 0, .int .i64 0] 54)).cell? ⟨W.heap.size, 1, none⟩ = some (.int .i64 0) := by simp [go_sem]
        replace H := H.grow hb
        exact ⟨_, _, _, _, _, _, rfl, ⟨H.c, H.s, fun h h' => H.d2 (by simpa using h) (by simpa using h'), fun h => H.d3 (by simpa using h), fun h h' => H.d6 (by simpa using h) (by simpa using h'), fun h => H.d7 (by simpa using h), fun h => H.d8 (by simpa using h), fun _ => ⟨W.heap.size, rfl, hlt, _, _, n0, n1, by simp [go_sem], by simp [go_sem]⟩, fun h => by have h := (H.d10 (by simpa using h)).2.1; rw [hd] at h; cases h⟩⟩
      · cases ho
        have h8 := hdep 8 (by kernel_rfl) (by simp)
        have h9 := hdep 9 (by kernel_rfl) (by simp)
        clear hdep
        obtain ⟨h3, h7, rfl⟩ := H.d8 h8
        obtain ⟨aa, rfl, hsa⟩ := H.d3 h3
        obtain ⟨bb, rfl, hsb⟩ := H.d7 h7
        obtain ⟨p, rfl, hp, u0, u1, c0, c1, f0, f1⟩ := H.d9 h9
        have e1 := store_two (P := Try.prog) (.int .i64 aa) (.int .i64 bb) rfl rfl c0 c1 f0 f1
        go_simp
        refine hK _ _ ?_
        obtain ⟨v0, v1⟩ := span_set (.int .i64 aa) (.int .i64 bb) c0 c1
        exact ⟨_, _, _, _, _, _, rfl, ⟨⟨(H.c.1.setCell (p := ⟨p, 0, none⟩) (by show w.heap.size ≤ p; omega) _).setCell (p := ⟨p, 1, none⟩) (by show w.heap.size ≤ p; omega) _, (setCell_far _ _ (by omega)).trans ((setCell_far _ _ (by omega)).trans H.c.2.1), (setCell_far _ _ (by omega)).trans ((setCell_far _ _ (by omega)).trans H.c.2.2.1), (setCell_far _ _ (by omega)).trans ((setCell_far _ _ (by omega)).trans H.c.2.2.2)⟩, ⟨(setCell_far _ _ (by omega)).trans ((setCell_far _ _ (by omega)).trans H.s.1), (setCell_far _ _ (by omega)).trans ((setCell_far _ _ (by omega)).trans H.s.2.1), ((World.frozen?_setCell ..).trans ((World.frozen?_setCell ..).trans H.s.2.2.1)), ((World.frozen?_setCell ..).trans ((World.frozen?_setCell ..).trans H.s.2.2.2))⟩, fun _ h => absurd h (by simp), fun h => H.d3 (by simpa using h), fun _ h => absurd h (by simp), fun h => H.d7 (by simpa using h), fun h => H.d8 (by simpa using h), fun _ => ⟨p, rfl, hp, _, _, v0, v1, ((World.frozen?_setCell ..).trans ((World.frozen?_setCell ..).trans f0)), ((World.frozen?_setCell ..).trans ((World.frozen?_setCell ..).trans f1))⟩, fun _ => ⟨by simpa using h8, by simpa using h9, p, rfl, v0, v1⟩⟩⟩
    case fin =>
      rintro done a W hall ⟨x5, x14, x15, x18, x19, x20, rfl, H⟩
      obtain ⟨aa, rfl, hsa⟩ := H.d3 (hall 3 (by simp))
      obtain ⟨bb, rfl, hsb⟩ := H.d7 (hall 7 (by simp))
      obtain ⟨-, h9, p, rfl, c0, c1⟩ := H.d10 (hall 10 (by simp))
      obtain ⟨p', e, hp, -⟩ := H.d9 h9
      obtain rfl : p = p' := by simpa using e
      have HS := Lib.hid (And.intro hsa hsb)
      obtain ⟨s0, s1, y0, y1⟩ := H.s
      have BR := H.c.1
      clear hall H hsa hsb e HH2 CE CL
      by_cases h0 : aa = 10001
      · subst h0
        go_wp2
        obtain ⟨u0, u1⟩ := span_set (.int .i64 0) (.int .i64 0) s0 s1
        refine bodyPost_ret (v := .tuple #[.agg #[.int .i64 0, .int .i64 0], .int .i64 7]) ?_ rfl ?_
        · exact results_ct (p := 2) (u := 3) (ty := 54) rfl _ _ (w.heap.size + 1) _ rfl (load_span u0 u1)
        · exact ⟨0, 0, 7, rfl, .inr ⟨HE.out, 10001, bb, HS.out.1, HS.out.2, .inl ⟨rfl, rfl, rfl, rfl⟩⟩, (BR.setCell (p := ⟨w.heap.size + 1, 0, none⟩) (Nat.le_succ _) _).setCell (p := ⟨w.heap.size + 1, 1, none⟩) (Nat.le_succ _) _⟩
      · have h01 : (aa == 10001) = false := by rw [beq_eq_false_iff_ne]; exact h0
        have H0 := Lib.hid h0
        clear h0
        go_wp2
        obtain ⟨u0, u1⟩ := span_set (.int .i64 aa) (.int .i64 bb) s0 s1
        refine bodyPost_ret (v := .tuple #[.agg #[.int .i64 aa, .int .i64 bb], .int .i64 0]) ?_ rfl ?_
        · exact results_ct (p := 2) (u := 3) (ty := 54) rfl _ _ (w.heap.size + 1) _ rfl (load_span u0 u1)
        · exact ⟨aa, bb, 0, rfl, .inr ⟨HE.out, aa, bb, HS.out.1, HS.out.2, .inr ⟨H0.out, rfl, rfl, rfl⟩⟩, (BR.setCell (p := ⟨w.heap.size + 1, 0, none⟩) (Nat.le_succ _) _).setCell (p := ⟨w.heap.size + 1, 1, none⟩) (Nat.le_succ _) _⟩
  · have he1 : (openErr wd hs ss != 0) = true := by rw [bne, show (openErr wd hs ss == 0) = false from by rw [beq_eq_false_iff_ne]; exact he]; rfl
    have HE := Lib.hid he
    obtain ⟨s0, s1, y0, y1⟩ := H1.s
    have BR := H1.c.1
    clear he H1
    go_wp2
    obtain ⟨u0, u1⟩ := span_set (.int .i64 0) (.int .i64 0) s0 s1
    refine bodyPost_ret (v := .tuple #[.agg #[.int .i64 0, .int .i64 0], .int .i64 (openErr wd hs ss)]) ?_ rfl ?_
    · exact results_ct (p := 2) (u := 3) (ty := 54) rfl _ _ (w.heap.size + 1) _ rfl (load_span u0 u1)
    · exact ⟨0, 0, _, rfl, .inl ⟨HE.out, rfl, rfl, rfl⟩, (BR.setCell (p := ⟨w.heap.size + 1, 0, none⟩) (Nat.le_succ _) _).setCell (p := ⟨w.heap.size + 1, 1, none⟩) (Nat.le_succ _) _⟩
end Go.Proofs.Ytdgibmgifgdpbaa
/-
  What the statements use: lists of their own, grounds that are cloned and compared: the contracts.
-/
namespace Go.Proofs.Ytdgibmgifgdpbaa
open Go.RowKit Go.Shelf
open Lim

theorem addr_add (b off j : Nat) : (⟨b, off, none⟩ : Addr).add j = ⟨b, off + j, none⟩ := by unfold Addr.add; split <;> simp_all
theorem store_three {P : Program} {W : World} {p : Nat} {u0 u1 u2 : Value} (x y z : Value) (hx : x.oneCell' = true) (hy : y.oneCell' = true) (hz : z.oneCell' = true) (h0 : W.cell? ⟨p, 0, none⟩ = some u0) (h1 : W.cell? ⟨p, 1, none⟩ = some u1) (h2 : W.cell? ⟨p, 2, none⟩ = some u2)
    (f0 : W.frozen? ⟨p, 0, none⟩ = false) (f1 : W.frozen? ⟨p, 1, none⟩ = false) (f2 : W.frozen? ⟨p, 2, none⟩ = false) :
    (storeCells ⟨p, 0, none⟩ [x, y, z]).run P W = .ok () (((W.setCell ⟨p, 0, none⟩ x).setCell ⟨p, 1, none⟩ y).setCell ⟨p, 2, none⟩ z) := by
  have := run_storeCells_cells (P := P) p 0 [x, y, z] 0 W (fun j hj => by
      match j with
      | 0 => simp [h0]
      | 1 => simp [h1]
      | 2 => simp [h2]
      | j + 3 => exact absurd hj (by simp)) (fun j hj => by
      match j with
      | 0 => simpa using f0
      | 1 => simpa using f1
      | 2 => simpa using f2
      | j + 3 => exact absurd hj (by simp)) (fun v hv => by
      rcases List.mem_cons.1 hv with rfl | hv
      · exact hx
      rcases List.mem_cons.1 hv with rfl | hv
      · exact hy
      · have : v = z := by simpa using hv
        rw [this]; exact hz)
  simpa [World.setCells] using this
theorem three_set {W : World} {p : Nat} {u0 u1 u2 : Value} (x y z : Value) (h0 : W.cell? ⟨p, 0, none⟩ = some u0) (h1 : W.cell? ⟨p, 1, none⟩ = some u1) (h2 : W.cell? ⟨p, 2, none⟩ = some u2) :
    (((W.setCell ⟨p, 0, none⟩ x).setCell ⟨p, 1, none⟩ y).setCell ⟨p, 2, none⟩ z).cell? ⟨p, 0, none⟩ = some x ∧ (((W.setCell ⟨p, 0, none⟩ x).setCell ⟨p, 1, none⟩ y).setCell ⟨p, 2, none⟩ z).cell? ⟨p, 1, none⟩ = some y ∧ (((W.setCell ⟨p, 0, none⟩ x).setCell ⟨p, 1, none⟩ y).setCell ⟨p, 2, none⟩ z).cell? ⟨p, 2, none⟩ = some z := by
  refine ⟨?_, ?_, ?_⟩
  · rw [setCell_off _ _ (by omega), setCell_off _ _ (by omega)]; exact World.cell?_setCell_same' _ _ _ (by rw [h0]; rfl)
  · rw [setCell_off _ _ (by omega)]; exact World.cell?_setCell_same' _ _ _ (by rw [setCell_off _ _ (by omega), h1]; rfl)
  · exact World.cell?_setCell_same' _ _ _ (by rw [setCell_off _ _ (by omega), setCell_off _ _ (by omega), h2]; rfl)
section
variable {P : Program} {w : World}
/-- nothing is appended to nothing -/
theorem run_append_empty (t ty e : TypeId) (i : TypeInfo) (ht : P.underlying t = some (.slice e)) (hi : P.info? e = some i) (a : Option Addr) (c : Nat) :
    (Builtin.append_ #[t, t] ty #[.slice none 0 0, .slice a 0 c]).run P w = .ok (.slice none 0 0) w := by
  cases a <;> simp [Builtin.append_, run_underlying ht, sizeOf, typeInfo, hi, Builtin.lenOf, Builtin.firstCells, loadCells, loadCellsFrom]
theorem wpList_append_empty {ops : Array Oper} {rest : List Oper} {o : Oper} {act : Act} {Q : Exit → Act → World → Prop} (hgd : o.guard = none) (s x : Operand) (t e : TypeId) (i : TypeInfo)
    (ho : o.op = .call { callee := .builtin .append, args := #[s, x], argTypes := #[t, t] }) (ht : P.underlying t = some (.slice e)) (hi : P.info? e = some i) (a : Option Addr) (c : Nat)
    (hs : act.eval s = .slice none 0 0) (hx : act.eval x = .slice a 0 c) (h : wpList P ops Q rest (act.put o.dst (.slice none 0 0)) w) : wpList P ops Q (o :: rest) act w :=
  wpList_plain hgd fun K hK => by
    unfold Oper.wp execOp
    simp only [ho, resolve, invoke, builtin, Sem.run_bind, Sem.run_pure, Result.andThen_ok, List.map_toArray, List.map_cons, List.map_nil, hs, hx, run_append_empty (w := w) t o.type e i ht hi a c]
    exact hK _ _ h
end
set_option maxRecDepth 20000 in
set_option maxHeartbeats 1000000 in
/-- a list of numbers of its own -/
theorem kclone_ints {B : Nat} {v : Value} {l : List Int} {w : World} (hn : l.length ≤ 1000) (h : RS B w v l.length (ints l)) :
    Calls Try.prog 40 #[v] w fun e w' => ∃ v', e = .returned v' ∧ w'.ownsRow w.heap.size 3 1 v' l.length (ints l) ∧ Below w.heap.size w w' := by
  obtain ⟨a, cap, rfl, hc⟩ := h
  obtain ⟨i0, hi, hz0, hz1, hz2⟩ := info_parts Try.infoInt
  have HI := Lib.hid (And.intro hi (And.intro hz0 (And.intro hz1 hz2)))
  clear hi hz0 hz1 hz2
  by_cases he : ints l = []
  · have e0 : l.length = 0 := by have := congrArg List.length he; simpa [ints] using this
    have HE := Lib.hid he
    rw [e0]
    clear hc he
    go_enter Try.func40, Try.ntmps40
    go_wp2_with (at_builtin; refine wpList_append_empty rfl _ _ 23 3 i0 rfl Try.underlying23 HI.out.1 a cap rfl rfl ?_)
    go_ret
    exact ⟨_, rfl, by rw [HE.out]; exact World.ownsRow_nil _ _ _ _, Below.refl _ _⟩
  · obtain ⟨b, off, rfl, hb, hcell⟩ := hc he
    have HL := Lib.hid hcell
    clear hcell he hc
    obtain ⟨n, hnl⟩ : ∃ n, n = l.length := ⟨_, rfl⟩
    have hn' : n ≤ 1000 := by omega
    rw [← hnl]
    have HN := Lib.hid hnl
    clear hn hnl
    go_enter Try.func40, Try.ntmps40
    go_wp2_with (at_builtin; refine wpList_append_own _ rfl _ _ 23 rfl w.heap.size 3 i0 (.int .i64 0) 1 8 Try.underlying23 HI.out.1 HI.out.2.1 HI.out.2.2.1 HI.out.2.2.2 rfl (by decide) (.slice none 0 0) 0 [] rfl (World.ownsRow_nil _ _ _ _) ⟨b, off, none⟩ n cap (ints l) rfl (by rw [HN.out]; simp [ints]) (fun j u hj => by rw [addr_add]; exact HL.out j u hj) (by intro u hu; simp [ints] at hu; obtain ⟨x, -, rfl⟩ := hu; rfl) (by unfold maxLen; omega) (by omega) (Nat.le_refl _) ?_; intro v' w3 hown3 hgrow _)
    have hB3 : Below w.heap.size w w3 := (Below.refl _ w).grown hgrow (Nat.le_refl _) (fun j e => by cases e)
    clear hgrow
    go_wp2
    go_ret
    exact ⟨_, rfl, by simpa using hown3, hB3⟩
set_option maxRecDepth 20000 in
set_option maxHeartbeats 1000000 in
/-- a list of spans of its own -/
theorem kclone_spans {B : Nat} {v : Value} {l : List (Int × Int)} {w : World} (hn : l.length ≤ 1000) (h : RS B w v l.length (spans l)) :
    Calls Try.prog 55 #[v] w fun e w' => ∃ v', e = .returned v' ∧ w'.ownsRow w.heap.size 54 2 v' l.length (spans l) ∧ Below w.heap.size w w' := by
  obtain ⟨a, cap, rfl, hc⟩ := h
  obtain ⟨i0, hi, hz0, hz1, hz2⟩ := info_parts infoSpan
  have HI := Lib.hid (And.intro hi (And.intro hz0 (And.intro hz1 hz2)))
  clear hi hz0 hz1 hz2
  by_cases he : spans l = []
  · have e0 : l.length = 0 := by have := congrArg List.length he; rw [spans_length] at this; simp at this; omega
    have HE := Lib.hid he
    rw [e0]
    clear hc he
    go_enter Try.func55, Try.ntmps55
    go_wp2_with (at_builtin; refine wpList_append_empty rfl _ _ 22 54 i0 rfl Try.underlying22 HI.out.1 a cap rfl rfl ?_)
    go_ret
    exact ⟨_, rfl, by rw [HE.out]; exact World.ownsRow_nil _ _ _ _, Below.refl _ _⟩
  · obtain ⟨b, off, rfl, hb, hcell⟩ := hc he
    have HL := Lib.hid hcell
    clear hcell he hc
    obtain ⟨n, hnl⟩ : ∃ n, n = l.length := ⟨_, rfl⟩
    have hn' : n ≤ 1000 := by omega
    rw [← hnl]
    have HN := Lib.hid hnl
    clear hn hnl
    go_enter Try.func55, Try.ntmps55
    go_wp2_with (at_builtin; refine wpList_append_own _ rfl _ _ 22 rfl w.heap.size 54 i0 (.agg #[.int .i64 0, .int .i64 0]) 2 16 Try.underlying22 HI.out.1 HI.out.2.1 HI.out.2.2.1 HI.out.2.2.2 rfl (by decide) (.slice none 0 0) 0 [] rfl (World.ownsRow_nil _ _ _ _) ⟨b, off, none⟩ n cap (spans l) rfl (by rw [HN.out]; exact spans_length l) (fun j u hj => by rw [addr_add]; exact HL.out j u hj) (by intro u hu; simp [spans] at hu; obtain ⟨x, y, -, rfl | rfl⟩ := hu <;> rfl) (by unfold maxLen; omega) (by omega) (Nat.le_refl _) ?_; intro v' w3 hown3 hgrow _)
    have hB3 : Below w.heap.size w w3 := (Below.refl _ w).grown hgrow (Nat.le_refl _) (fun j e => by cases e)
    clear hgrow
    go_wp2
    go_ret
    exact ⟨_, rfl, by simpa using hown3, hB3⟩

-- HEADEND
theorem size_lclone_any : (Try.prog.info? 25).map (·.size) = some 3 := by kernel_rfl
theorem size_lground_any : (Try.prog.info? 28).map (·.size) = some 3 := by kernel_rfl
set_option maxRecDepth 20000 in
set_option maxHeartbeats 1000000 in
theorem lclone_any {B : Nat} {wd : Int} {hv sv : Value} {hs : List (Int × Int)} {ss : List Int} {w : World} (hB : B ≤ w.heap.size) (hh : RS B w hv hs.length (spans hs)) (hss : RS B w sv ss.length (ints ss)) (hn : hs.length ≤ 1000) (hm : ss.length ≤ 1000) :
    Calls Try.prog 18 #[.agg #[.int .i64 wd, hv, sv]] w fun e w' => ∃ hv' sv', e = .returned (.agg #[.int .i64 wd, hv', sv']) ∧ w'.ownsRow w.heap.size 54 2 hv' hs.length (spans hs) ∧ w'.ownsRow w.heap.size 3 1 sv' ss.length (ints ss) ∧ Below w.heap.size w w' := by
  have h1h : hv.oneCell' = true := by obtain ⟨a, c, rfl, -⟩ := hh; rfl
  have h1s : sv.oneCell' = true := by obtain ⟨a, c, rfl, -⟩ := hss; rfl
  have HH := Lib.hid (And.intro hh hss)
  have HN := Lib.hid (And.intro hn (And.intro hm hB))
  clear hn hm hh hss hB
  go_enter Try.func18, Try.ntmps18
  have B0 : Below w.heap.size w ((w.alloc (.cells #[.int .i64 wd, hv, sv] 25)).alloc (.cells #[.int .i64 0, .slice none 0 0, .slice none 0 0] 25)) := ((Below.refl _ w).alloc (Nat.le_refl _) _).alloc (by simp) _
  have hC : (fun W => W.cell? ⟨w.heap.size, 0, none⟩ = some (.int .i64 wd) ∧ W.cell? ⟨w.heap.size, 1, none⟩ = some hv ∧ W.cell? ⟨w.heap.size, 2, none⟩ = some sv) ((w.alloc (.cells #[.int .i64 wd, hv, sv] 25)).alloc (.cells #[.int .i64 0, .slice none 0 0, .slice none 0 0] 25)).drew := ⟨by simp [go_sem], by simp [go_sem], by simp [go_sem]⟩
  have Z : ∀ j, j < 3 → ∃ u, ((w.alloc (.cells #[.int .i64 wd, hv, sv] 25)).alloc (.cells #[.int .i64 0, .slice none 0 0, .slice none 0 0] 25)).cell? ⟨w.heap.size + 1, j, none⟩ = some u ∧ ((w.alloc (.cells #[.int .i64 wd, hv, sv] 25)).alloc (.cells #[.int .i64 0, .slice none 0 0, .slice none 0 0] 25)).frozen? ⟨w.heap.size + 1, j, none⟩ = false := by
    intro j hj
    match j with
    | 0 => exact ⟨.int .i64 0, by simp [go_sem], by simp [go_sem]⟩
    | 1 => exact ⟨.slice none 0 0, by simp [go_sem], by simp [go_sem]⟩
    | 2 => exact ⟨.slice none 0 0, by simp [go_sem], by simp [go_sem]⟩
    | j + 3 => omega
  have HZ := Lib.hid Z
  have HSZ : Hid (w.heap.size + 2 ≤ ((w.alloc (.cells #[.int .i64 wd, hv, sv] 25)).alloc (.cells #[.int .i64 0, .slice none 0 0, .slice none 0 0] 25)).heap.size) := Lib.hid (by simp)
  have HB := Lib.hid B0
  have HHC := Lib.hid hC
  clear Z B0 hC
  go_wp2_with fail
  generalize hW : (World.alloc _ _).alloc _ = W0 at HZ HB HHC HSZ ⊢
  clear hW
  have hC := HHC.out
  have hsz : w.heap.size + 2 ≤ W0.drew.heap.size := HSZ.out
  clear HHC
  refine Lim.regC' (fun W => W.cell? ⟨w.heap.size, 0, none⟩ = some (.int .i64 wd) ∧ W.cell? ⟨w.heap.size, 1, none⟩ = some hv ∧ W.cell? ⟨w.heap.size, 2, none⟩ = some sv) [] #[false, false, false, false, false, false, false, false, false, false] (by kernel_rfl) rfl ?_
  refine Lim.stepR 0 (fun _ => trivial) rfl (by kernel_rfl) (fun _ _ _ _ h => h) hC rfl ?_; apply Exists.intro; refine ⟨?_, ?_⟩
  · rintro w ⟨r1, r2, r3⟩; go_simp; try with_reducible rfl
  simp only [Act.put, List.setIfInBounds_toArray, List.set_cons_succ, List.set_cons_zero]
  refine Lim.stepR 1 (fun _ => trivial) rfl (by kernel_rfl) (fun _ _ _ _ h => h) hC rfl ?_; apply Exists.intro; refine ⟨?_, ?_⟩
  · rintro w ⟨r1, r2, r3⟩; go_simp; try with_reducible rfl
  simp only [Act.put, List.setIfInBounds_toArray, List.set_cons_succ, List.set_cons_zero]
  refine Lim.stepR 2 (fun _ => trivial) rfl (by kernel_rfl) (fun _ _ _ _ h => h) hC rfl ?_; apply Exists.intro; refine ⟨?_, ?_⟩
  · rintro w ⟨r1, r2, r3⟩; go_simp; try with_reducible rfl
  simp only [Act.put, List.setIfInBounds_toArray, List.set_cons_succ, List.set_cons_zero]
  refine Lim.stepR 3 (fun _ => trivial) rfl (by kernel_rfl) (fun _ _ _ _ h => h) hC rfl ?_; apply Exists.intro; refine ⟨?_, ?_⟩
  · rintro w ⟨r1, r2, r3⟩; go_simp; try with_reducible rfl
  simp only [Act.put, List.setIfInBounds_toArray, List.set_cons_succ, List.set_cons_zero]
  refine Lim.stepR 5 (fun _ => trivial) rfl (by kernel_rfl) (fun _ _ _ _ h => h) hC rfl ?_; apply Exists.intro; refine ⟨?_, ?_⟩
  · rintro w ⟨r1, r2, r3⟩; go_simp; try with_reducible rfl
  simp only [Act.put, List.setIfInBounds_toArray, List.set_cons_succ, List.set_cons_zero]
  refine Lim.stepR 6 (fun _ => trivial) rfl (by kernel_rfl) (fun _ _ _ _ h => h) hC rfl ?_; apply Exists.intro; refine ⟨?_, ?_⟩
  · rintro w ⟨r1, r2, r3⟩; go_simp; try with_reducible rfl
  simp only [Act.put, List.setIfInBounds_toArray, List.set_cons_succ, List.set_cons_zero]
  refine Lim.stepE 4 (fun _ => trivial) rfl (by kernel_rfl) rfl (fun K hK => ?_)   -- E call
  go_simp
  refine ⟨rfl, (callsIn_wide.2 (kclone_spans HN.out.1 (HH.out.1.below ((HB.out.drew).mono HN.out.2.2)))).mono ?_⟩
  rintro e w3 ⟨v3, rfl, ho3, hb3⟩
  have hC3 : (fun W => W.cell? ⟨w.heap.size, 0, none⟩ = some (.int .i64 wd) ∧ W.cell? ⟨w.heap.size, 1, none⟩ = some hv ∧ W.cell? ⟨w.heap.size, 2, none⟩ = some sv) w3 := ⟨cell_on hb3 hC.1, cell_on hb3 hC.2.1, cell_on hb3 hC.2.2⟩
  have HB3 := Lib.hid (HB.out.drew.trans (hb3.mono HB.out.drew.size))
  obtain ⟨a3, c3, rfl, -⟩ := RS.of_owns ho3
  have HO3 := Lib.hid (owns_mono ho3 hsz)
  have HBB := Lib.hid hb3
  have hsz3 : w.heap.size + 2 ≤ w3.heap.size := Nat.le_trans hsz hb3.size
  clear ho3 hb3
  refine hK _ _ hC3 ?_
  simp only [Act.put, List.setIfInBounds_toArray, List.set_cons_succ, List.set_cons_zero]
  refine Lim.stepE 7 (fun _ => trivial) rfl (by kernel_rfl) rfl (fun K hK => ?_)   -- E call
  go_simp
  refine ⟨rfl, (callsIn_wide.2 (kclone_ints HN.out.2.1 (HH.out.2.below (HB3.out.mono HN.out.2.2)))).mono ?_⟩
  rintro e w4 ⟨v4, rfl, ho4, hb4⟩
  have hC4 : (fun W => W.cell? ⟨w.heap.size, 0, none⟩ = some (.int .i64 wd) ∧ W.cell? ⟨w.heap.size, 1, none⟩ = some hv ∧ W.cell? ⟨w.heap.size, 2, none⟩ = some sv) w4 := ⟨cell_on hb4 hC3.1, cell_on hb4 hC3.2.1, cell_on hb4 hC3.2.2⟩
  have HB4 := Lib.hid (HB3.out.trans (hb4.mono HB3.out.size))
  obtain ⟨a4, c4, rfl, -⟩ := RS.of_owns ho4
  have HO4 := Lib.hid (owns_mono ho4 hsz3)
  have HO34 := Lib.hid (owns_below HO3.out hb4)
  have HZ4 : Hid (∀ j, j < 3 → ∃ u, w4.cell? ⟨w.heap.size + 1, j, none⟩ = some u ∧ w4.frozen? ⟨w.heap.size + 1, j, none⟩ = false) := Lib.hid (fun j hj => by
    obtain ⟨u, z, y⟩ := HZ.out j hj
    have z3 : W0.drew.cell? ⟨w.heap.size + 1, j, none⟩ = some u := z
    have y3 : W0.drew.frozen? ⟨w.heap.size + 1, j, none⟩ = false := y
    exact ⟨u, cell_on hb4 (cell_on HBB.out z3), frozen_on hb4 (cell_on HBB.out z3) (frozen_on HBB.out z3 y3)⟩)
  clear ho4 hb4 HBB HO3
  refine hK _ _ hC4 ?_
  simp only [Act.put, List.setIfInBounds_toArray, List.set_cons_succ, List.set_cons_zero]
  refine Lim.stepR 8 (fun _ => trivial) rfl (by kernel_rfl) (fun _ _ _ _ h => h) hC4 rfl ?_; apply Exists.intro; refine ⟨?_, ?_⟩
  · rintro w ⟨r1, r2, r3⟩; go_simp; try with_reducible rfl
  simp only [Act.put, List.setIfInBounds_toArray, List.set_cons_succ, List.set_cons_zero]
  refine Lim.stepE 9 (fun _ => trivial) rfl (by kernel_rfl) rfl (fun K hK => ?_)   -- E store
  obtain ⟨u0, z0, y0⟩ := HZ4.out 0 (by omega)
  obtain ⟨u1, z1, y1⟩ := HZ4.out 1 (by omega)
  obtain ⟨u2, z2, y2⟩ := HZ4.out 2 (by omega)
  obtain ⟨c0, c1, c2⟩ := three_set (.int .i64 wd) (.slice a3 hs.length c3) (.slice a4 ss.length c4) z0 z1 z2
  have e1 := store_three (P := Try.prog) (.int .i64 wd) (.slice a3 hs.length c3) (.slice a4 ss.length c4) rfl rfl rfl z0 z1 z2 y0 y1 y2
  have HC := Lib.hid (And.intro c0 (And.intro c1 c2))
  have hlt : w.heap.size + 1 < w4.heap.size := World.block_lt_of_cell? _ _ z0
  clear c0 c1 c2
  go_simp
  refine hK _ _ ⟨(setCell_far _ _ (by omega)).trans ((setCell_far _ _ (by omega)).trans ((setCell_far _ _ (by omega)).trans hC4.1)), (setCell_far _ _ (by omega)).trans ((setCell_far _ _ (by omega)).trans ((setCell_far _ _ (by omega)).trans hC4.2.1)), (setCell_far _ _ (by omega)).trans ((setCell_far _ _ (by omega)).trans ((setCell_far _ _ (by omega)).trans hC4.2.2))⟩ ?_

  refine Lim.stepD (by kernel_rfl) ?_
  have BW : Below w.heap.size w (((w4.setCell ⟨w.heap.size + 1, 0, none⟩ (.int .i64 wd)).setCell ⟨w.heap.size + 1, 1, none⟩ (.slice a3 hs.length c3)).setCell ⟨w.heap.size + 1, 2, none⟩ (.slice a4 ss.length c4)) := ((HB4.out.setCell (p := ⟨w.heap.size + 1, 0, none⟩) (Nat.le_succ _) _).setCell (p := ⟨w.heap.size + 1, 1, none⟩) (Nat.le_succ _) _).setCell (p := ⟨w.heap.size + 1, 2, none⟩) (Nat.le_succ _) _
  have KK := Lib.hid (owns_mono (base' := w.heap.size) (owns_setCell (owns_setCell (owns_setCell HO34.out (p := w.heap.size + 1) (j := 0) (.int .i64 wd) (by omega)) (p := w.heap.size + 1) (j := 1) (.slice a3 hs.length c3) (by omega)) (p := w.heap.size + 1) (j := 2) (.slice a4 ss.length c4) (by omega)) (by omega))
  have KS := Lib.hid (owns_mono (base' := w.heap.size) (owns_setCell (owns_setCell (owns_setCell HO4.out (p := w.heap.size + 1) (j := 0) (.int .i64 wd) (by omega)) (p := w.heap.size + 1) (j := 1) (.slice a3 hs.length c3) (by omega)) (p := w.heap.size + 1) (j := 2) (.slice a4 ss.length c4) (by omega)) (by omega))
  go_wp2
  refine bodyPost_ret (v := .agg #[.int .i64 wd, .slice a3 hs.length c3, .slice a4 ss.length c4]) (results_mid rfl _ _ (w.heap.size + 1) 0 [.int .i64 wd, .slice a3 hs.length c3, .slice a4 ss.length c4] _ rfl (range3 HC.out.1 HC.out.2.1 HC.out.2.2) Try.underlying25 rfl size_lclone_any) rfl ?_
  exact ⟨_, _, rfl, KK.out, KS.out, BW⟩
set_option maxRecDepth 20000 in
set_option maxHeartbeats 1000000 in
theorem lground_any {B : Nat} {wd : Int} {hv sv : Value} {hs : List (Int × Int)} {ss : List Int} {w : World} (hB : B ≤ w.heap.size) (hh : RS B w hv hs.length (spans hs)) (hss : RS B w sv ss.length (ints ss)) (hn : hs.length ≤ 1000) (hm : ss.length ≤ 1000) :
    Calls Try.prog 15 #[.agg #[.int .i64 wd, hv, sv]] w fun e w' => ∃ hv' sv', e = .returned (.agg #[.int .i64 wd, hv', sv']) ∧ w'.ownsRow w.heap.size 54 2 hv' hs.length (spans hs) ∧ w'.ownsRow w.heap.size 3 1 sv' ss.length (ints ss) ∧ Below w.heap.size w w' := by
  have h1h : hv.oneCell' = true := by obtain ⟨a, c, rfl, -⟩ := hh; rfl
  have h1s : sv.oneCell' = true := by obtain ⟨a, c, rfl, -⟩ := hss; rfl
  have HH := Lib.hid (And.intro hh hss)
  have HN := Lib.hid (And.intro hn (And.intro hm hB))
  clear hn hm hh hss hB
  go_enter Try.func15, Try.ntmps15
  have B0 : Below w.heap.size w ((w.alloc (.cells #[.int .i64 wd, hv, sv] 25)).alloc (.cells #[.int .i64 0, .slice none 0 0, .slice none 0 0] 28)) := ((Below.refl _ w).alloc (Nat.le_refl _) _).alloc (by simp) _
  have hC : (fun W => W.cell? ⟨w.heap.size, 0, none⟩ = some (.int .i64 wd) ∧ W.cell? ⟨w.heap.size, 1, none⟩ = some hv ∧ W.cell? ⟨w.heap.size, 2, none⟩ = some sv) ((w.alloc (.cells #[.int .i64 wd, hv, sv] 25)).alloc (.cells #[.int .i64 0, .slice none 0 0, .slice none 0 0] 28)).drew := ⟨by simp [go_sem], by simp [go_sem], by simp [go_sem]⟩
  have Z : ∀ j, j < 3 → ∃ u, ((w.alloc (.cells #[.int .i64 wd, hv, sv] 25)).alloc (.cells #[.int .i64 0, .slice none 0 0, .slice none 0 0] 28)).cell? ⟨w.heap.size + 1, j, none⟩ = some u ∧ ((w.alloc (.cells #[.int .i64 wd, hv, sv] 25)).alloc (.cells #[.int .i64 0, .slice none 0 0, .slice none 0 0] 28)).frozen? ⟨w.heap.size + 1, j, none⟩ = false := by
    intro j hj
    match j with
    | 0 => exact ⟨.int .i64 0, by simp [go_sem], by simp [go_sem]⟩
    | 1 => exact ⟨.slice none 0 0, by simp [go_sem], by simp [go_sem]⟩
    | 2 => exact ⟨.slice none 0 0, by simp [go_sem], by simp [go_sem]⟩
    | j + 3 => omega
  have HZ := Lib.hid Z
  have HSZ : Hid (w.heap.size + 2 ≤ ((w.alloc (.cells #[.int .i64 wd, hv, sv] 25)).alloc (.cells #[.int .i64 0, .slice none 0 0, .slice none 0 0] 28)).heap.size) := Lib.hid (by simp)
  have HB := Lib.hid B0
  have HHC := Lib.hid hC
  clear Z B0 hC
  go_wp2_with fail
  generalize hW : (World.alloc _ _).alloc _ = W0 at HZ HB HHC HSZ ⊢
  clear hW
  have hC := HHC.out
  have hsz : w.heap.size + 2 ≤ W0.drew.heap.size := HSZ.out
  clear HHC
  refine Lim.regC' (fun W => W.cell? ⟨w.heap.size, 0, none⟩ = some (.int .i64 wd) ∧ W.cell? ⟨w.heap.size, 1, none⟩ = some hv ∧ W.cell? ⟨w.heap.size, 2, none⟩ = some sv) [] #[false, false, false, false, false, false, false, false, false, false] (by kernel_rfl) rfl ?_
  refine Lim.stepR 0 (fun _ => trivial) rfl (by kernel_rfl) (fun _ _ _ _ h => h) hC rfl ?_; apply Exists.intro; refine ⟨?_, ?_⟩
  · rintro w ⟨r1, r2, r3⟩; go_simp; try with_reducible rfl
  simp only [Act.put, List.setIfInBounds_toArray, List.set_cons_succ, List.set_cons_zero]
  refine Lim.stepR 1 (fun _ => trivial) rfl (by kernel_rfl) (fun _ _ _ _ h => h) hC rfl ?_; apply Exists.intro; refine ⟨?_, ?_⟩
  · rintro w ⟨r1, r2, r3⟩; go_simp; try with_reducible rfl
  simp only [Act.put, List.setIfInBounds_toArray, List.set_cons_succ, List.set_cons_zero]
  refine Lim.stepR 2 (fun _ => trivial) rfl (by kernel_rfl) (fun _ _ _ _ h => h) hC rfl ?_; apply Exists.intro; refine ⟨?_, ?_⟩
  · rintro w ⟨r1, r2, r3⟩; go_simp; try with_reducible rfl
  simp only [Act.put, List.setIfInBounds_toArray, List.set_cons_succ, List.set_cons_zero]
  refine Lim.stepR 3 (fun _ => trivial) rfl (by kernel_rfl) (fun _ _ _ _ h => h) hC rfl ?_; apply Exists.intro; refine ⟨?_, ?_⟩
  · rintro w ⟨r1, r2, r3⟩; go_simp; try with_reducible rfl
  simp only [Act.put, List.setIfInBounds_toArray, List.set_cons_succ, List.set_cons_zero]
  refine Lim.stepR 5 (fun _ => trivial) rfl (by kernel_rfl) (fun _ _ _ _ h => h) hC rfl ?_; apply Exists.intro; refine ⟨?_, ?_⟩
  · rintro w ⟨r1, r2, r3⟩; go_simp; try with_reducible rfl
  simp only [Act.put, List.setIfInBounds_toArray, List.set_cons_succ, List.set_cons_zero]
  refine Lim.stepR 6 (fun _ => trivial) rfl (by kernel_rfl) (fun _ _ _ _ h => h) hC rfl ?_; apply Exists.intro; refine ⟨?_, ?_⟩
  · rintro w ⟨r1, r2, r3⟩; go_simp; try with_reducible rfl
  simp only [Act.put, List.setIfInBounds_toArray, List.set_cons_succ, List.set_cons_zero]
  refine Lim.stepE 4 (fun _ => trivial) rfl (by kernel_rfl) rfl (fun K hK => ?_)   -- E call
  go_simp
  refine ⟨rfl, (callsIn_wide.2 (kclone_spans HN.out.1 (HH.out.1.below ((HB.out.drew).mono HN.out.2.2)))).mono ?_⟩
  rintro e w3 ⟨v3, rfl, ho3, hb3⟩
  have hC3 : (fun W => W.cell? ⟨w.heap.size, 0, none⟩ = some (.int .i64 wd) ∧ W.cell? ⟨w.heap.size, 1, none⟩ = some hv ∧ W.cell? ⟨w.heap.size, 2, none⟩ = some sv) w3 := ⟨cell_on hb3 hC.1, cell_on hb3 hC.2.1, cell_on hb3 hC.2.2⟩
  have HB3 := Lib.hid (HB.out.drew.trans (hb3.mono HB.out.drew.size))
  obtain ⟨a3, c3, rfl, -⟩ := RS.of_owns ho3
  have HO3 := Lib.hid (owns_mono ho3 hsz)
  have HBB := Lib.hid hb3
  have hsz3 : w.heap.size + 2 ≤ w3.heap.size := Nat.le_trans hsz hb3.size
  clear ho3 hb3
  refine hK _ _ hC3 ?_
  simp only [Act.put, List.setIfInBounds_toArray, List.set_cons_succ, List.set_cons_zero]
  refine Lim.stepE 7 (fun _ => trivial) rfl (by kernel_rfl) rfl (fun K hK => ?_)   -- E call
  go_simp
  refine ⟨rfl, (callsIn_wide.2 (kclone_ints HN.out.2.1 (HH.out.2.below (HB3.out.mono HN.out.2.2)))).mono ?_⟩
  rintro e w4 ⟨v4, rfl, ho4, hb4⟩
  have hC4 : (fun W => W.cell? ⟨w.heap.size, 0, none⟩ = some (.int .i64 wd) ∧ W.cell? ⟨w.heap.size, 1, none⟩ = some hv ∧ W.cell? ⟨w.heap.size, 2, none⟩ = some sv) w4 := ⟨cell_on hb4 hC3.1, cell_on hb4 hC3.2.1, cell_on hb4 hC3.2.2⟩
  have HB4 := Lib.hid (HB3.out.trans (hb4.mono HB3.out.size))
  obtain ⟨a4, c4, rfl, -⟩ := RS.of_owns ho4
  have HO4 := Lib.hid (owns_mono ho4 hsz3)
  have HO34 := Lib.hid (owns_below HO3.out hb4)
  have HZ4 : Hid (∀ j, j < 3 → ∃ u, w4.cell? ⟨w.heap.size + 1, j, none⟩ = some u ∧ w4.frozen? ⟨w.heap.size + 1, j, none⟩ = false) := Lib.hid (fun j hj => by
    obtain ⟨u, z, y⟩ := HZ.out j hj
    have z3 : W0.drew.cell? ⟨w.heap.size + 1, j, none⟩ = some u := z
    have y3 : W0.drew.frozen? ⟨w.heap.size + 1, j, none⟩ = false := y
    exact ⟨u, cell_on hb4 (cell_on HBB.out z3), frozen_on hb4 (cell_on HBB.out z3) (frozen_on HBB.out z3 y3)⟩)
  clear ho4 hb4 HBB HO3
  refine hK _ _ hC4 ?_
  simp only [Act.put, List.setIfInBounds_toArray, List.set_cons_succ, List.set_cons_zero]
  refine Lim.stepR 8 (fun _ => trivial) rfl (by kernel_rfl) (fun _ _ _ _ h => h) hC4 rfl ?_; apply Exists.intro; refine ⟨?_, ?_⟩
  · rintro w ⟨r1, r2, r3⟩; go_simp; try with_reducible rfl
  simp only [Act.put, List.setIfInBounds_toArray, List.set_cons_succ, List.set_cons_zero]
  refine Lim.stepE 9 (fun _ => trivial) rfl (by kernel_rfl) rfl (fun K hK => ?_)   -- E store
  obtain ⟨u0, z0, y0⟩ := HZ4.out 0 (by omega)
  obtain ⟨u1, z1, y1⟩ := HZ4.out 1 (by omega)
  obtain ⟨u2, z2, y2⟩ := HZ4.out 2 (by omega)
  obtain ⟨c0, c1, c2⟩ := three_set (.int .i64 wd) (.slice a3 hs.length c3) (.slice a4 ss.length c4) z0 z1 z2
  have e1 := store_three (P := Try.prog) (.int .i64 wd) (.slice a3 hs.length c3) (.slice a4 ss.length c4) rfl rfl rfl z0 z1 z2 y0 y1 y2
  have HC := Lib.hid (And.intro c0 (And.intro c1 c2))
  have hlt : w.heap.size + 1 < w4.heap.size := World.block_lt_of_cell? _ _ z0
  clear c0 c1 c2
  go_simp
  refine hK _ _ ⟨(setCell_far _ _ (by omega)).trans ((setCell_far _ _ (by omega)).trans ((setCell_far _ _ (by omega)).trans hC4.1)), (setCell_far _ _ (by omega)).trans ((setCell_far _ _ (by omega)).trans ((setCell_far _ _ (by omega)).trans hC4.2.1)), (setCell_far _ _ (by omega)).trans ((setCell_far _ _ (by omega)).trans ((setCell_far _ _ (by omega)).trans hC4.2.2))⟩ ?_

  refine Lim.stepD (by kernel_rfl) ?_
  have BW : Below w.heap.size w (((w4.setCell ⟨w.heap.size + 1, 0, none⟩ (.int .i64 wd)).setCell ⟨w.heap.size + 1, 1, none⟩ (.slice a3 hs.length c3)).setCell ⟨w.heap.size + 1, 2, none⟩ (.slice a4 ss.length c4)) := ((HB4.out.setCell (p := ⟨w.heap.size + 1, 0, none⟩) (Nat.le_succ _) _).setCell (p := ⟨w.heap.size + 1, 1, none⟩) (Nat.le_succ _) _).setCell (p := ⟨w.heap.size + 1, 2, none⟩) (Nat.le_succ _) _
  have KK := Lib.hid (owns_mono (base' := w.heap.size) (owns_setCell (owns_setCell (owns_setCell HO34.out (p := w.heap.size + 1) (j := 0) (.int .i64 wd) (by omega)) (p := w.heap.size + 1) (j := 1) (.slice a3 hs.length c3) (by omega)) (p := w.heap.size + 1) (j := 2) (.slice a4 ss.length c4) (by omega)) (by omega))
  have KS := Lib.hid (owns_mono (base' := w.heap.size) (owns_setCell (owns_setCell (owns_setCell HO4.out (p := w.heap.size + 1) (j := 0) (.int .i64 wd) (by omega)) (p := w.heap.size + 1) (j := 1) (.slice a3 hs.length c3) (by omega)) (p := w.heap.size + 1) (j := 2) (.slice a4 ss.length c4) (by omega)) (by omega))
  go_wp2
  refine bodyPost_ret (v := .agg #[.int .i64 wd, .slice a3 hs.length c3, .slice a4 ss.length c4]) (results_mid rfl _ _ (w.heap.size + 1) 0 [.int .i64 wd, .slice a3 hs.length c3, .slice a4 ss.length c4] _ rfl (range3 HC.out.1 HC.out.2.1 HC.out.2.2) Try.underlying28 rfl size_lground_any) rfl ?_
  exact ⟨_, _, rfl, KK.out, KS.out, BW⟩
/-- whether there are too many cells: if not, not too many -/
def GreatAns (e : Ending) (n m : Nat) : Prop := ∃ b, e = .returned (.bool b) ∧ (b = false → n ≤ 110 ∧ m ≤ 110)
set_option maxRecDepth 20000 in
set_option maxHeartbeats 1000000 in
theorem great_any {B : Nat} {wd : Int} {hv sv : Value} {hs : List (Int × Int)} {ss : List Int} {w : World} (hh : RS B w hv hs.length (spans hs)) (hss : RS B w sv ss.length (ints ss)) :
    Calls Try.prog 13 #[.agg #[.int .i64 wd, hv, sv]] w fun e w' => GreatAns e hs.length ss.length ∧ Below w.heap.size w w' := by
  obtain ⟨ha, hcap, rfl, -⟩ := hh
  obtain ⟨sa, scap, rfl, -⟩ := hss
  obtain ⟨n, hn⟩ : ∃ n, n = hs.length := ⟨_, rfl⟩
  obtain ⟨m, hm⟩ : ∃ m, m = ss.length := ⟨_, rfl⟩
  rw [← hn, ← hm]
  clear hn hm
  have B0 := Lib.hid ((Below.refl w.heap.size w).alloc (Nat.le_refl _) (.cells #[.int .i64 wd, .slice ha n hcap, .slice sa m scap] 25))
  go_enter Try.func13, Try.ntmps13
  go_wp2
  all_goals
    go_ret
    refine ⟨⟨_, rfl, fun h => ?_⟩, B0.out⟩
    simp at h <;> omega
set_option maxRecDepth 20000 in
set_option maxHeartbeats 1000000 in
/-- a ground compared with itself elsewhere -/
theorem same_any {B B2 : Nat} {wd : Int} {hv sv hv2 sv2 : Value} {hs : List (Int × Int)} {ss : List Int} {w : World} (hB : B ≤ w.heap.size) (hB2 : B2 ≤ w.heap.size) (hn : hs.length ≤ 1000) (hm : ss.length ≤ 1000) (hh : RS B w hv hs.length (spans hs)) (hss : RS B w sv ss.length (ints ss)) (hh2 : RS B2 w hv2 hs.length (spans hs)) (hss2 : RS B2 w sv2 ss.length (ints ss)) :
    Calls Try.prog 25 #[.agg #[.int .i64 wd, hv, sv], .agg #[.int .i64 wd, hv2, sv2]] w fun e w' => e = .returned (.bool true) ∧ Below w.heap.size w w' := by
  have HH := Lib.hid (And.intro (And.intro hh hss) (And.intro hh2 hss2))
  have HN := Lib.hid (And.intro (And.intro hB hB2) (And.intro hn hm))
  obtain ⟨ha, hcap, rfl, -⟩ := hh
  obtain ⟨sa, scap, rfl, -⟩ := hss
  obtain ⟨ha2, hcap2, rfl, -⟩ := hh2
  obtain ⟨sa2, scap2, rfl, -⟩ := hss2
  clear hn hm hB hB2
  go_enter Try.func25, Try.ntmps25
  have B0 := Lib.hid (((Below.refl w.heap.size w).alloc (Nat.le_refl _) (.cells #[.int .i64 wd, .slice ha hs.length hcap, .slice sa ss.length scap] 25)).alloc (by simp) (.cells #[.int .i64 wd, .slice ha2 hs.length hcap2, .slice sa2 ss.length scap2] 25))
  go_wp2_with fail
  refine (equal_spans HN.out.2.1 (HH.out.1.1.below (B0.out.mono HN.out.1.1)) (HH.out.2.1.below (B0.out.mono HN.out.1.2))).mono ?_
  rintro e w1 ⟨rfl, hb1⟩
  have B1 := Lib.hid (B0.out.trans (hb1.mono B0.out.size))
  have e1 : decide (hs = hs) = true := by simp
  rw [e1]
  have q1 := cell_on hb1 (show World.cell? (World.alloc (w.alloc _) _) ⟨w.heap.size, 2, none⟩ = some (.slice sa ss.length scap) by simp [go_sem])
  have q2 := cell_on hb1 (show World.cell? (World.alloc (w.alloc _) _) ⟨w.heap.size + 1, 2, none⟩ = some (.slice sa2 ss.length scap2) by simp [go_sem])
  clear hb1 e1
  go_wp2_with fail
  refine (equal_ints HN.out.2.2 (HH.out.1.2.below (B1.out.mono HN.out.1.1)) (HH.out.2.2.below (B1.out.mono HN.out.1.2))).mono ?_
  rintro e w2 ⟨rfl, hb2⟩
  have B2 := Lib.hid (B1.out.trans (hb2.mono B1.out.size))
  have e2 : decide (ss = ss) = true := by simp
  rw [e2]
  clear hb2 e2
  go_wp2
  go_ret
  exact ⟨rfl, B2.out⟩
end Go.Proofs.Ytdgibmgifgdpbaa
/-
  What a statement holds while it clones what it was given, in whatever order its own memory is laid.
-/
namespace Go.Proofs.Ytdgibmgifgdpbaa
open Go.RowKit Go.Shelf
open Lim

/-- three cells of a block are written -/
def set3 (W : World) (p : Nat) (x y z : Value) : World := ((W.setCell ⟨p, 0, none⟩ x).setCell ⟨p, 1, none⟩ y).setCell ⟨p, 2, none⟩ z
theorem set3_other {W : World} {p k : Nat} (x y z : Value) (h : k ≠ p) : (set3 W p x y z).heap[k]? = W.heap[k]? := by
  unfold set3
  rw [Below.heap_setCell _ _ _ k h, Below.heap_setCell _ _ _ k h, Below.heap_setCell _ _ _ k h]
theorem set3_same {W : World} {p : Nat} {a b c : Value} {t : TypeId} (x y z : Value) (h : W.heap[p]? = some (.cells #[a, b, c] t (0, 0))) : (set3 W p x y z).heap[p]? = some (.cells #[x, y, z] t (0, 0)) := by
  unfold set3
  rw [heap_setCell_self z (heap_setCell_self y (heap_setCell_self x h))]
  rfl
theorem owns_set3 {W : World} {p base e size n : Nat} {v : Value} {xs : List Value} {cs : Array Value} {t : TypeId} {fr : Nat × Nat} (x y z : Value) (h : W.ownsRow base e size v n xs) (hp : W.heap[p]? = some (.cells cs t fr)) (ht : t ≠ e) : (set3 W p x y z).ownsRow base e size v n xs := by
  refine ⟨h.1, ?_⟩
  rcases h.2 with hn | ⟨g, cap, cur, hv, hB, hg, r⟩
  · exact .inl hn
  · refine .inr ⟨g, cap, cur, hv, hB, (set3_other x y z ?_).trans hg, r⟩
    rintro rfl
    rw [hp] at hg
    cases hg
    exact ht rfl
theorem below_set3 {S : Nat} {w W : World} {p : Nat} (x y z : Value) (h : Below S w W) (hp : S ≤ p) : Below S w (set3 W p x y z) := ((h.setCell (p := ⟨p, 0, none⟩) hp _).setCell (p := ⟨p, 1, none⟩) hp _).setCell (p := ⟨p, 2, none⟩) hp _
theorem set3_size {W : World} {p : Nat} (x y z : Value) : (set3 W p x y z).heap.size = W.heap.size := by
  unfold set3; simp [World.setCell]
theorem cell_of_heap {W : World} {p : Nat} {a b c : Value} {t : TypeId} (h : W.heap[p]? = some (.cells #[a, b, c] t (0, 0))) :
    (W.cell? ⟨p, 0, none⟩ = some a ∧ W.cell? ⟨p, 1, none⟩ = some b ∧ W.cell? ⟨p, 2, none⟩ = some c) ∧ (W.frozen? ⟨p, 0, none⟩ = false ∧ W.frozen? ⟨p, 1, none⟩ = false ∧ W.frozen? ⟨p, 2, none⟩ = false) := by
  refine ⟨⟨?_, ?_, ?_⟩, ?_, ?_, ?_⟩ <;> simp [World.cell?, World.frozen?, h]
theorem store_set3 {P : Program} {W : World} {p : Nat} {a b c : Value} {t : TypeId} (x y z : Value) (hx : x.oneCell' = true) (hy : y.oneCell' = true) (hz : z.oneCell' = true) (h : W.heap[p]? = some (.cells #[a, b, c] t (0, 0))) :
    (storeCells ⟨p, 0, none⟩ [x, y, z]).run P W = .ok () (set3 W p x y z) := by
  obtain ⟨⟨h0, h1, h2⟩, f0, f1, f2⟩ := cell_of_heap h
  exact store_three x y z hx hy hz h0 h1 h2 f0 f1 f2

/-- a ground that the call has made -/
def Gr (W : World) (S : Nat) (wd : Int) (hs : List (Int × Int)) (ss : List Int) (x : Value) : Prop :=
  ∃ a c a' c', x = .agg #[.int .i64 wd, .slice a hs.length c, .slice a' ss.length c'] ∧ W.ownsRow S 54 2 (.slice a hs.length c) hs.length (spans hs) ∧ W.ownsRow S 3 1 (.slice a' ss.length c') ss.length (ints ss)
/-- a list of numbers that the call has made -/
def Gl (W : World) (S : Nat) (l : List Int) (x : Value) : Prop := ∃ a c, x = .slice a l.length c ∧ W.ownsRow S 3 1 x l.length (ints l)
/-- a place for a ground, and such a place with a ground in it -/
def Bx (W : World) (S : Nat) (t : TypeId) (x : Value) : Prop := ∃ p a b c, x = .pointer (some ⟨p, 0, none⟩) ∧ S < p ∧ W.heap[p]? = some (.cells #[a, b, c] t (0, 0))
def Fu (W : World) (S : Nat) (t : TypeId) (x y : Value) : Prop := ∃ p a b c, x = .pointer (some ⟨p, 0, none⟩) ∧ S < p ∧ y = .agg #[a, b, c] ∧ W.heap[p]? = some (.cells #[a, b, c] t (0, 0))
theorem Gr.grow {W W' : World} {S : Nat} {wd : Int} {hs : List (Int × Int)} {ss : List Int} {x : Value} (h : Gr W S wd hs ss x) (hb : Below W.heap.size W W') : Gr W' S wd hs ss x :=
  let ⟨a, c, a', c', h0, h1, h2⟩ := h; ⟨a, c, a', c', h0, owns_below h1 hb, owns_below h2 hb⟩
theorem Gl.grow {W W' : World} {S : Nat} {l : List Int} {x : Value} (h : Gl W S l x) (hb : Below W.heap.size W W') : Gl W' S l x := let ⟨a, c, h0, h1⟩ := h; ⟨a, c, h0, owns_below h1 hb⟩
theorem heap_grow {W W' : World} {p : Nat} {o : Obj} (h : W.heap[p]? = some o) (hb : Below W.heap.size W W') : W'.heap[p]? = some o := (hb.block p (Array.getElem?_eq_some_iff.1 h).1).trans h
theorem Bx.grow {W W' : World} {S : Nat} {t : TypeId} {x : Value} (h : Bx W S t x) (hb : Below W.heap.size W W') : Bx W' S t x := let ⟨p, a, b, c, h0, h1, h2⟩ := h; ⟨p, a, b, c, h0, h1, heap_grow h2 hb⟩
theorem Fu.grow {W W' : World} {S : Nat} {t : TypeId} {x y : Value} (h : Fu W S t x y) (hb : Below W.heap.size W W') : Fu W' S t x y := let ⟨p, a, b, c, h0, h1, h2, h3⟩ := h; ⟨p, a, b, c, h0, h1, h2, heap_grow h3 hb⟩
section
variable {W : World} {S p : Nat} {a b c : Value} {t : TypeId} (x y z : Value) (hp : W.heap[p]? = some (.cells #[a, b, c] t (0, 0)))
include hp
theorem Gr.set3 {wd : Int} {hs : List (Int × Int)} {ss : List Int} {v : Value} (h : Gr W S wd hs ss v) (h1 : t ≠ 54) (h2 : t ≠ 3) : Gr (set3 W p x y z) S wd hs ss v :=
  let ⟨a, c, a', c', h0, k1, k2⟩ := h; ⟨a, c, a', c', h0, owns_set3 x y z k1 hp h1, owns_set3 x y z k2 hp h2⟩
theorem Gl.set3 {l : List Int} {v : Value} (h : Gl W S l v) (h2 : t ≠ 3) : Gl (set3 W p x y z) S l v := let ⟨a, c, h0, h1⟩ := h; ⟨a, c, h0, owns_set3 x y z h1 hp h2⟩
theorem Bx.set3 {t' : TypeId} {v : Value} (h : Bx W S t' v) : Bx (set3 W p x y z) S t' v := by
  obtain ⟨q, a', b', c', h0, h1, h2⟩ := h
  by_cases e : q = p
  · subst e; exact ⟨_, _, _, _, h0, h1, set3_same x y z h2⟩
  · exact ⟨_, _, _, _, h0, h1, (set3_other x y z e).trans h2⟩
theorem Fu.set3 {t' : TypeId} {v u : Value} (h : Fu W S t' v u) (ht : t' ≠ t) : Fu (set3 W p x y z) S t' v u := by
  obtain ⟨q, a', b', c', h0, h1, h2, h3⟩ := h
  have e : q ≠ p := by
    rintro rfl
    rw [hp] at h3
    cases h3
    exact ht rfl
  exact ⟨_, _, _, _, h0, h1, h2, (set3_other x y z e).trans h3⟩
end

theorem DrainAns.unique {wd : Int} {hs : List (Int × Int)} {ss T : List Int} {er er' : Int} {l l' : List Int} (h : DrainAns wd hs ss T er l) (k : DrainAns wd hs ss T er' l') : er = er' ∧ l = l' := by
  rcases h with ⟨h0, rfl, rfl⟩ | ⟨h0, h1, rfl, rfl⟩ | ⟨h0, h1, h2, rfl, rfl⟩ | ⟨h0, h1, h2, rfl, a, b, ha, hb, rfl⟩ <;> rcases k with ⟨k0, rfl, rfl⟩ | ⟨k0, k1, rfl, rfl⟩ | ⟨k0, k1, k2, rfl, rfl⟩ | ⟨k0, k1, k2, rfl, a', b', ha', hb', rfl⟩ <;> first | exact ⟨rfl, rfl⟩ | exact absurd k0 h0 | exact absurd h0 k0 | exact absurd k1 h1 | exact absurd h1 k1 | (rw [h2] at k2; cases k2) | skip
  refine ⟨rfl, List.map_congr_left fun c hc => ?_⟩
  have hc' : c < (⟨wd.toNat, hs, ss⟩ : Gd).n := List.mem_range.1 hc
  unfold drainOf
  rw [ha.unique ha' hc', hb.unique hb' hc']
theorem PassAns.unique {wd sea : Int} {hs : List (Int × Int)} {ss : List Int} {er er' : Int} {l l' : List (Int × Int)} (h : PassAns wd hs ss sea er l) (k : PassAns wd hs ss sea er' l') : er = er' ∧ l = l' := by
  rcases h with ⟨h0, rfl, rfl⟩ | ⟨h0, h1, rfl, rfl⟩ | ⟨h0, h1, rfl, a, b, ha, hb, rfl⟩ <;> rcases k with ⟨k0, rfl, rfl⟩ | ⟨k0, k1, rfl, rfl⟩ | ⟨k0, k1, rfl, a', b', ha', hb', rfl⟩ <;> first | exact ⟨rfl, rfl⟩ | exact absurd k0 h0 | exact absurd h0 k0 | (rw [h1] at k1; cases k1) | skip
  refine ⟨rfl, List.map_congr_left fun c hc => ?_⟩
  have hc' : c < (⟨wd.toNat, hs, ss⟩ : Gd).n := by have h1 := (openErr_ok h0).hn; have h := List.mem_range.1 hc; show c < ss.length; simp [Gd.n] at h1; omega
  unfold pspan
  rw [ha.unique ha' hc', hb.unique hb' hc']
theorem DrainAns.length {wd : Int} {hs : List (Int × Int)} {ss T : List Int} {er : Int} {l : List Int} (h : DrainAns wd hs ss T er l) : l.length ≤ 100 := by
  rcases h with ⟨h0, rfl, rfl⟩ | ⟨h0, h1, rfl, rfl⟩ | ⟨h0, h1, h2, rfl, rfl⟩ | ⟨h0, h1, h2, rfl, a, b, ha, hb, rfl⟩ <;> simp
  have h := openErr_ok h0
  have h1 := h.n1
  have h2 := h.hn
  simp at *
  omega
theorem PassAns.length {wd sea : Int} {hs : List (Int × Int)} {ss : List Int} {er : Int} {l : List (Int × Int)} (h : PassAns wd hs ss sea er l) : l.length ≤ 100 := by
  rcases h with ⟨h0, rfl, rfl⟩ | ⟨h0, h1, rfl, rfl⟩ | ⟨h0, h1, rfl, a, b, ha, hb, rfl⟩ <;> simp
  have h := openErr_ok h0
  have h1 := h.n1
  have h2 := h.hn
  simp [Gd.n] at *
  omega
end Go.Proofs.Ytdgibmgifgdpbaa
/-
  RidgeGrounds: the walk of the statement's function.
-/
namespace Go.Proofs.Ytdgibmgifgdpbaa
open Go.RowKit Go.Shelf
open Lim

/-- what holds while the statement clones what it was given, in whatever order memory is laid -/
structure GrP (w : World) (wd : Int) (hv sv : Value) (hs : List (Int × Int)) (ss T : List Int) (done : Nat → Bool) (x7 x8 x9 x28 x30 x32 : Value) (W : World) : Prop where
  c : Below w.heap.size w W ∧ w.heap.size < W.heap.size ∧ W.cell? ⟨w.heap.size, 0, none⟩ = some (.int .i64 wd) ∧ W.cell? ⟨w.heap.size, 1, none⟩ = some hv ∧ W.cell? ⟨w.heap.size, 2, none⟩ = some sv
  d1 : done 1 = true → Gr W w.heap.size wd hs ss x28
  d3 : done 3 = true → Gl W w.heap.size T x30
  d5 : done 5 = true → Gr W w.heap.size wd hs ss x32
  d6 : done 6 = true → Bx W w.heap.size 25 x7
  d7 : done 7 = true → Bx W w.heap.size 28 x9
  d8 : done 8 = true → (done 1 = true ∧ done 6 = true) ∧ Fu W w.heap.size 25 x7 x28
  d9 : done 9 = true → done 3 = true ∧ x8 = x30
  d10 : done 10 = true → (done 5 = true ∧ done 7 = true) ∧ Fu W w.heap.size 28 x9 x32
theorem GrP.grow {w : World} {wd : Int} {hv sv : Value} {hs : List (Int × Int)} {ss T : List Int} {done : Nat → Bool} {x7 x8 x9 x28 x30 x32 : Value} {W W' : World} (H : GrP w wd hv sv hs ss T done x7 x8 x9 x28 x30 x32 W) (hb : Below W.heap.size W W') :
    GrP w wd hv sv hs ss T done x7 x8 x9 x28 x30 x32 W' :=
  ⟨⟨H.c.1.trans (hb.mono H.c.1.size), Nat.lt_of_lt_of_le H.c.2.1 hb.size, cell_on hb H.c.2.2.1, cell_on hb H.c.2.2.2.1, cell_on hb H.c.2.2.2.2⟩, fun h => (H.d1 h).grow hb, fun h => (H.d3 h).grow hb, fun h => (H.d5 h).grow hb, fun h => (H.d6 h).grow hb, fun h => (H.d7 h).grow hb,
   fun h => ⟨(H.d8 h).1, (H.d8 h).2.grow hb⟩, H.d9, fun h => ⟨(H.d10 h).1, (H.d10 h).2.grow hb⟩⟩
theorem fu_new {W : World} {S p : Nat} {a b c x y z : Value} {t : TypeId} (hS : S < p) (h : W.heap[p]? = some (.cells #[a, b, c] t (0, 0))) : Fu (set3 W p x y z) S t (.pointer (some ⟨p, 0, none⟩)) (.agg #[x, y, z]) :=
  ⟨p, _, _, _, rfl, hS, rfl, set3_same x y z h⟩
theorem cell_set3 {W : World} {p q j : Nat} (x y z : Value) (h : q ≠ p) : (set3 W p x y z).cell? ⟨q, j, none⟩ = W.cell? ⟨q, j, none⟩ := by
  unfold set3
  rw [setCell_far _ _ (Ne.symm h), setCell_far _ _ (Ne.symm h), setCell_far _ _ (Ne.symm h)]

/-- what lies there behind the cloning -/
structure GS (w : World) (wd : Int) (hv sv : Value) (hs : List (Int × Int)) (ss T : List Int) (p q : Nat) (h1 s1 h2 s2 m : Value) (W : World) : Prop where
  b : Below w.heap.size w W
  g : W.cell? ⟨w.heap.size, 0, none⟩ = some (.int .i64 wd) ∧ W.cell? ⟨w.heap.size, 1, none⟩ = some hv ∧ W.cell? ⟨w.heap.size, 2, none⟩ = some sv
  o : W.cell? ⟨p, 0, none⟩ = some (.int .i64 wd) ∧ W.cell? ⟨p, 1, none⟩ = some h1 ∧ W.cell? ⟨p, 2, none⟩ = some s1
  r : W.cell? ⟨q, 0, none⟩ = some (.int .i64 wd) ∧ W.cell? ⟨q, 1, none⟩ = some h2 ∧ W.cell? ⟨q, 2, none⟩ = some s2
  h1 : RS W.heap.size W h1 hs.length (spans hs)
  s1 : RS W.heap.size W s1 ss.length (ints ss)
  h2 : RS W.heap.size W h2 hs.length (spans hs)
  s2 : RS W.heap.size W s2 ss.length (ints ss)
  m : RS W.heap.size W m T.length (ints T)
theorem GS.grow {w : World} {wd : Int} {hv sv : Value} {hs : List (Int × Int)} {ss T : List Int} {p q : Nat} {h1 s1 h2 s2 m : Value} {W W' : World} (H : GS w wd hv sv hs ss T p q h1 s1 h2 s2 m W) (hb : Below W.heap.size W W') :
    GS w wd hv sv hs ss T p q h1 s1 h2 s2 m W' :=
  ⟨H.b.trans (hb.mono H.b.size), ⟨cell_on hb H.g.1, cell_on hb H.g.2.1, cell_on hb H.g.2.2⟩, ⟨cell_on hb H.o.1, cell_on hb H.o.2.1, cell_on hb H.o.2.2⟩, ⟨cell_on hb H.r.1, cell_on hb H.r.2.1, cell_on hb H.r.2.2⟩,
   (H.h1.below hb).mono hb.size, (H.s1.below hb).mono hb.size, (H.h2.below hb).mono hb.size, (H.s2.below hb).mono hb.size, (H.m.below hb).mono hb.size⟩

set_option maxRecDepth 20000 in
set_option maxHeartbeats 4000000 in
theorem grounds_any {B : Nat} {wd sea : Int} {hv sv tv : Value} {hs : List (Int × Int)} {ss T : List Int} {w : World} (hB : B ≤ w.heap.size) (hh : RS B w hv hs.length (spans hs)) (hss : RS B w sv ss.length (ints ss)) (ht : RS B w tv T.length (ints T)) :
    Calls Try.prog 9 #[.agg #[.int .i64 wd, hv, sv], tv, .int .i64 sea] w fun e w' => e = .returned (.bool true) ∧ Below w.heap.size w w' := by
  have B0 : Below w.heap.size w (w.alloc (.cells #[.int .i64 wd, hv, sv] 25)) := (Below.refl _ w).alloc (Nat.le_refl _) _
  have CG := Lib.hid (great_any (B := B) (wd := wd) (w := w.alloc (.cells #[.int .i64 wd, hv, sv] 25)) (hh.below (B0.mono hB)) (hss.below (B0.mono hB)))
  have HHS := Lib.hid (And.intro hh (And.intro hss ht))
  have HB := Lib.hid hB
  obtain ⟨ha, hcap, rfl, -⟩ := hh
  obtain ⟨sa, scap, rfl, -⟩ := hss
  obtain ⟨ta, tcap, rfl, -⟩ := ht
  clear hB
  go_enter Try.func9, Try.ntmps9
  have H0 : GrP w wd (.slice ha hs.length hcap) (.slice sa ss.length scap) hs ss T (fun _ => false) undef undef undef undef undef undef (w.alloc (.cells #[.int .i64 wd, .slice ha hs.length hcap, .slice sa ss.length scap] 25)) :=
    ⟨⟨B0, by simp, by simp [go_sem], by simp [go_sem], by simp [go_sem]⟩, fun h => (by cases h), fun h => (by cases h), fun h => (by cases h), fun h => (by cases h), fun h => (by cases h), fun h => (by cases h), fun h => (by cases h), fun h => (by cases h)⟩
  have HH0 := Lib.hid H0
  clear H0 B0
  go_wp2_with fail
  refine CG.out.mono ?_
  clear CG
  rintro e w1 ⟨⟨b, rfl, hgb⟩, hb⟩
  have HH1 := Lib.hid (HH0.out.grow hb)
  have HGB := Lib.hid hgb
  clear HH0 hb hgb
  cases b with
  | true =>
    go_wp2_with fail
    refine (awake_any _).mono ?_
    rintro e w2 ⟨rfl, hb2⟩
    have HB2 := Lib.hid (HH1.out.c.1.trans (hb2.mono HH1.out.c.1.size))
    clear hb2
    go_wp2
    go_ret
    exact ⟨rfl, HB2.out⟩
  | false =>
    have hl := HGB.out rfl
    clear HGB
    have HL := Lib.hid hl
    clear hl
    by_cases htl : (110 : Int) < (T.length : Nat)
    · have d1 : decide ((110 : Int) < (T.length : Nat)) = true := by simpa using htl
      clear htl
      go_wp2_with fail
      refine (awake_any _).mono ?_
      rintro e w2 ⟨rfl, hb2⟩
      have HB2 := Lib.hid (HH1.out.c.1.trans (hb2.mono HH1.out.c.1.size))
      clear hb2
      go_wp2
      go_ret
      exact ⟨rfl, HB2.out⟩
    · have d1 : decide ((110 : Int) < (T.length : Nat)) = false := by simpa using htl
      have HTL : Hid (T.length ≤ 110) := Lib.hid (by omega)
      clear htl
      have hC : (fun W => W.cell? ⟨w.heap.size, 0, none⟩ = some (.int .i64 wd) ∧ W.cell? ⟨w.heap.size, 1, none⟩ = some (.slice ha hs.length hcap) ∧ W.cell? ⟨w.heap.size, 2, none⟩ = some (.slice sa ss.length scap)) w1.drew := (HH1.out.grow (Below.refl _ w1).drew).c.2.2
      have HH2 := Lib.hid (HH1.out.grow (Below.refl _ w1).drew)
      go_wp2_with fail
      refine Lim.regC' (fun W => W.cell? ⟨w.heap.size, 0, none⟩ = some (.int .i64 wd) ∧ W.cell? ⟨w.heap.size, 1, none⟩ = some (.slice ha hs.length hcap) ∧ W.cell? ⟨w.heap.size, 2, none⟩ = some (.slice sa ss.length scap)) [] #[false, false, false, false, false, false, false, false, false, false, false] (by kernel_rfl) rfl ?_
      refine Lim.stepR 0 (fun _ => trivial) rfl (by kernel_rfl) (fun _ _ _ _ h => h) hC rfl ?_; apply Exists.intro; refine ⟨?_, ?_⟩
      · rintro w ⟨r1, r2, r3⟩; go_simp; try with_reducible rfl
      simp only [Act.put, List.setIfInBounds_toArray, List.set_cons_succ, List.set_cons_zero]
      refine Lim.stepR 2 (fun _ => trivial) rfl (by kernel_rfl) (fun _ _ _ _ h => h) hC rfl ?_; apply Exists.intro; refine ⟨?_, ?_⟩
      · rintro w ⟨r1, r2, r3⟩; go_simp; try with_reducible rfl
      simp only [Act.put, List.setIfInBounds_toArray, List.set_cons_succ, List.set_cons_zero]
      refine Lim.stepR 4 (fun _ => trivial) rfl (by kernel_rfl) (fun _ _ _ _ h => h) hC rfl ?_; apply Exists.intro; refine ⟨?_, ?_⟩
      · rintro w ⟨r1, r2, r3⟩; go_simp; try with_reducible rfl
      simp only [Act.put, List.setIfInBounds_toArray, List.set_cons_succ, List.set_cons_zero]
      clear hC
      refine Lim.parC [1, 3, 5, 6, 7, 8, 9, 10] (fun done a W => ∃ x7 x8 x9 x28 x30 x32, a = { tmps := #[.agg #[.int .i64 wd, .slice ha hs.length hcap, .slice sa ss.length scap], .slice ta T.length tcap, .int .i64 sea, .pointer (some ⟨w.heap.size, 0, none⟩), undef, undef, .bool false, x7, x8, x9, undef, undef, undef, undef, undef, undef, undef, undef, undef, .agg #[.int .i64 wd, .slice ha hs.length hcap, .slice sa ss.length scap], .bool false, .bool false, .slice ta T.length tcap, .int .i64 (T.length : Nat), .bool false, .bool false, undef, .agg #[.int .i64 wd, .slice ha hs.length hcap, .slice sa ss.length scap], x28, .slice ta T.length tcap, x30, .agg #[.int .i64 wd, .slice ha hs.length hcap, .slice sa ss.length scap], x32, undef, undef, undef, undef, undef, undef, undef, undef, undef, undef, undef, undef, undef, undef, undef, undef, undef, undef, undef, undef, undef, undef, undef, undef, undef, undef, undef, undef, undef, undef, undef, undef, undef, undef, undef, undef, undef, undef, undef, undef, undef, undef, undef, undef, undef, undef, undef, undef, undef, undef, undef, undef, undef, undef, undef, undef, undef, undef, undef, undef, undef, undef, undef, undef, undef, undef, undef, undef, undef, undef, undef, undef, undef, undef, undef, undef, undef, undef, undef, undef, undef, undef, undef, undef, undef, undef, undef, undef, undef, undef, undef, undef, undef, undef], defers := [] } ∧ GrP w wd (.slice ha hs.length hcap) (.slice sa ss.length scap) hs ss T done x7 x8 x9 x28 x30 x32 W) (fun _ => trivial) (by kernel_rfl) rfl rfl ?hC ?step ?fin ⟨_, _, _, _, _, _, rfl, HH2.out⟩
      case hC => rintro done a W ⟨_, _, _, _, _, _, _, H⟩; exact H.c.2.2
      case step =>
        intro i o hi ho done a W hd hdep hS K hK
        obtain ⟨x7, x8, x9, x28, x30, x32, rfl, H⟩ := hS
        simp only [List.mem_cons, List.not_mem_nil, or_false] at hi
        have HBW : B ≤ w.heap.size := HB.out
        rcases hi with rfl | rfl | rfl | rfl | rfl | rfl | rfl | rfl
        · cases ho
          have HC := lclone_any (B := B) (wd := wd) (by have := H.c.1.size; omega) (HHS.out.1.below (H.c.1.mono HBW)) (HHS.out.2.1.below (H.c.1.mono HBW)) (by have := HL.out; omega) (by have := HL.out; omega)
          clear hdep d1
          go_simp
          refine ⟨rfl, (callsIn_wide.2 HC).mono ?_⟩
          rintro e W' ⟨hv', sv', rfl, o1, o2, hb⟩
          refine hK _ _ ?_
          have hsz := H.c.1.size
          replace H := H.grow hb
          obtain ⟨aa, cc, rfl, -⟩ := RS.of_owns o1
          obtain ⟨ab, cb, rfl, -⟩ := RS.of_owns o2
          exact ⟨_, _, _, _, _, _, rfl, ⟨H.c, fun _ => ⟨aa, cc, ab, cb, rfl, owns_mono o1 hsz, owns_mono o2 hsz⟩, fun h => H.d3 (by simpa using h), fun h => H.d5 (by simpa using h), fun h => H.d6 (by simpa using h), fun h => H.d7 (by simpa using h), fun h => (by have h := (H.d8 (by simpa using h)).1.1; rw [hd] at h; cases h), fun h => H.d9 (by simpa using h), fun h => H.d10 (by simpa using h)⟩⟩
        · cases ho
          have HC := kclone_ints (B := B) (by have := HTL.out; omega) (HHS.out.2.2.below (H.c.1.mono HBW))
          clear hdep d1
          go_simp
          refine ⟨rfl, (callsIn_wide.2 HC).mono ?_⟩
          rintro e W' ⟨v, rfl, o1, hb⟩
          refine hK _ _ ?_
          have hsz := H.c.1.size
          replace H := H.grow hb
          obtain ⟨aa, cc, rfl, -⟩ := RS.of_owns o1
          exact ⟨_, _, _, _, _, _, rfl, ⟨H.c, fun h => H.d1 (by simpa using h), fun _ => ⟨aa, cc, rfl, owns_mono o1 hsz⟩, fun h => H.d5 (by simpa using h), fun h => H.d6 (by simpa using h), fun h => H.d7 (by simpa using h), fun h => H.d8 (by simpa using h), fun h => (by have h := (H.d9 (by simpa using h)).1; rw [hd] at h; cases h), fun h => H.d10 (by simpa using h)⟩⟩
        · cases ho
          have HC := lground_any (B := B) (wd := wd) (by have := H.c.1.size; omega) (HHS.out.1.below (H.c.1.mono HBW)) (HHS.out.2.1.below (H.c.1.mono HBW)) (by have := HL.out; omega) (by have := HL.out; omega)
          clear hdep d1
          go_simp
          refine ⟨rfl, (callsIn_wide.2 HC).mono ?_⟩
          rintro e W' ⟨hv', sv', rfl, o1, o2, hb⟩
          refine hK _ _ ?_
          have hsz := H.c.1.size
          replace H := H.grow hb
          obtain ⟨aa, cc, rfl, -⟩ := RS.of_owns o1
          obtain ⟨ab, cb, rfl, -⟩ := RS.of_owns o2
          exact ⟨_, _, _, _, _, _, rfl, ⟨H.c, fun h => H.d1 (by simpa using h), fun h => H.d3 (by simpa using h), fun _ => ⟨aa, cc, ab, cb, rfl, owns_mono o1 hsz, owns_mono o2 hsz⟩, fun h => H.d6 (by simpa using h), fun h => H.d7 (by simpa using h), fun h => H.d8 (by simpa using h), fun h => H.d9 (by simpa using h), fun h => (by have h := (H.d10 (by simpa using h)).1.1; rw [hd] at h; cases h)⟩⟩
        · cases ho
          clear hdep d1
          go_simp
          refine hK _ _ ?_
          have hlt := H.c.2.1
          have hn := heap_alloc_new W (.cells #[.int .i64 0, .slice none 0 0, .slice none 0 0] 25)
          have hb : Below W.heap.size W (W.alloc (.cells #[.int .i64 0, .slice none 0 0, .slice none 0 0] 25)) := (Below.refl _ W).alloc (Nat.le_refl _) _
          replace H := H.grow hb
          exact ⟨_, _, _, _, _, _, rfl, ⟨H.c, fun h => H.d1 (by simpa using h), fun h => H.d3 (by simpa using h), fun h => H.d5 (by simpa using h), fun _ => ⟨_, _, _, _, rfl, hlt, hn⟩, fun h => H.d7 (by simpa using h), fun h => (by have h := (H.d8 (by simpa using h)).1.2; rw [hd] at h; cases h), fun h => H.d9 (by simpa using h), fun h => H.d10 (by simpa using h)⟩⟩
        · cases ho
          clear hdep d1
          go_simp
          refine hK _ _ ?_
          have hlt := H.c.2.1
          have hn := heap_alloc_new W (.cells #[.int .i64 0, .slice none 0 0, .slice none 0 0] 28)
          have hb : Below W.heap.size W (W.alloc (.cells #[.int .i64 0, .slice none 0 0, .slice none 0 0] 28)) := (Below.refl _ W).alloc (Nat.le_refl _) _
          replace H := H.grow hb
          exact ⟨_, _, _, _, _, _, rfl, ⟨H.c, fun h => H.d1 (by simpa using h), fun h => H.d3 (by simpa using h), fun h => H.d5 (by simpa using h), fun h => H.d6 (by simpa using h), fun _ => ⟨_, _, _, _, rfl, hlt, hn⟩, fun h => H.d8 (by simpa using h), fun h => H.d9 (by simpa using h), fun h => (by have h := (H.d10 (by simpa using h)).1.2; rw [hd] at h; cases h)⟩⟩
        · cases ho
          have h1 := hdep 1 (by kernel_rfl) (by simp)
          have h6 := hdep 6 (by kernel_rfl) (by simp)
          clear hdep d1
          obtain ⟨aa, cc, ab, cb, rfl, o1, o2⟩ := H.d1 h1
          obtain ⟨p, u0, u1, u2, rfl, hp, hn⟩ := H.d6 h6
          obtain ⟨⟨k0, k1, k2⟩, f0, f1, f2⟩ := cell_of_heap hn
          go_simp
          refine hK _ _ ?_
          exact ⟨_, _, _, _, _, _, rfl, ⟨⟨below_set3 _ _ _ H.c.1 (Nat.le_of_lt hp), Nat.lt_of_lt_of_le H.c.2.1 (Nat.le_of_eq (set3_size _ _ _).symm), (cell_set3 _ _ _ (Nat.ne_of_lt hp)).trans H.c.2.2.1, (cell_set3 _ _ _ (Nat.ne_of_lt hp)).trans H.c.2.2.2.1, (cell_set3 _ _ _ (Nat.ne_of_lt hp)).trans H.c.2.2.2.2⟩, fun h => (H.d1 (by simpa using h)).set3 _ _ _ hn (by decide) (by decide), fun h => (H.d3 (by simpa using h)).set3 _ _ _ hn (by decide), fun h => (H.d5 (by simpa using h)).set3 _ _ _ hn (by decide) (by decide), fun h => (H.d6 (by simpa using h)).set3 _ _ _ hn, fun h => (H.d7 (by simpa using h)).set3 _ _ _ hn, fun _ => ⟨by simpa using And.intro h1 h6, fu_new hp hn⟩, fun h => H.d9 (by simpa using h), fun h => ⟨by simpa using (H.d10 (by simpa using h)).1, (H.d10 (by simpa using h)).2.set3 _ _ _ hn (by decide)⟩⟩⟩
        · cases ho
          have h3 := hdep 3 (by kernel_rfl) (by simp)
          clear hdep d1
          go_simp
          refine hK _ _ ?_
          exact ⟨_, _, _, _, _, _, rfl, ⟨H.c, fun h => H.d1 (by simpa using h), fun h => H.d3 (by simpa using h), fun h => H.d5 (by simpa using h), fun h => H.d6 (by simpa using h), fun h => H.d7 (by simpa using h), fun h => H.d8 (by simpa using h), fun _ => ⟨by simpa using h3, rfl⟩, fun h => H.d10 (by simpa using h)⟩⟩
        · cases ho
          have h5 := hdep 5 (by kernel_rfl) (by simp)
          have h7 := hdep 7 (by kernel_rfl) (by simp)
          clear hdep d1
          obtain ⟨aa, cc, ab, cb, rfl, o1, o2⟩ := H.d5 h5
          obtain ⟨p, u0, u1, u2, rfl, hp, hn⟩ := H.d7 h7
          obtain ⟨⟨k0, k1, k2⟩, f0, f1, f2⟩ := cell_of_heap hn
          go_simp
          refine hK _ _ ?_
          exact ⟨_, _, _, _, _, _, rfl, ⟨⟨below_set3 _ _ _ H.c.1 (Nat.le_of_lt hp), Nat.lt_of_lt_of_le H.c.2.1 (Nat.le_of_eq (set3_size _ _ _).symm), (cell_set3 _ _ _ (Nat.ne_of_lt hp)).trans H.c.2.2.1, (cell_set3 _ _ _ (Nat.ne_of_lt hp)).trans H.c.2.2.2.1, (cell_set3 _ _ _ (Nat.ne_of_lt hp)).trans H.c.2.2.2.2⟩, fun h => (H.d1 (by simpa using h)).set3 _ _ _ hn (by decide) (by decide), fun h => (H.d3 (by simpa using h)).set3 _ _ _ hn (by decide), fun h => (H.d5 (by simpa using h)).set3 _ _ _ hn (by decide) (by decide), fun h => (H.d6 (by simpa using h)).set3 _ _ _ hn, fun h => (H.d7 (by simpa using h)).set3 _ _ _ hn, fun h => ⟨by simpa using (H.d8 (by simpa using h)).1, (H.d8 (by simpa using h)).2.set3 _ _ _ hn (by decide)⟩, fun h => H.d9 (by simpa using h), fun _ => ⟨by simpa using And.intro h5 h7, fu_new hp hn⟩⟩⟩
      case fin =>
        rintro done a W hall ⟨x7, x8, x9, x28, x30, x32, rfl, H⟩
        obtain ⟨-, hf8⟩ := H.d8 (hall 8 (by simp))
        obtain ⟨-, rfl⟩ := H.d9 (hall 9 (by simp))
        obtain ⟨-, hf10⟩ := H.d10 (hall 10 (by simp))
        obtain ⟨a1, c1, a2, c2, rfl, o1, o2⟩ := H.d1 (hall 1 (by simp))
        obtain ⟨a3, c3, rfl, o3⟩ := H.d3 (hall 3 (by simp))
        obtain ⟨a4, c4, a5, c5, rfl, o4, o5⟩ := H.d5 (hall 5 (by simp))
        obtain ⟨p, u0, u1, u2, rfl, hp, e1, hn7⟩ := hf8
        obtain ⟨q, v0, v1, v2, rfl, hq, e2, hn9⟩ := hf10
        simp only [Value.agg.injEq, Array.mk.injEq, List.cons.injEq, and_true] at e1 e2
        obtain ⟨rfl, rfl, rfl⟩ := e1
        obtain ⟨rfl, rfl, rfl⟩ := e2
        have HG : GS w wd (.slice ha hs.length hcap) (.slice sa ss.length scap) hs ss T p q (.slice a1 hs.length c1) (.slice a2 ss.length c2) (.slice a4 hs.length c4) (.slice a5 ss.length c5) (.slice a3 T.length c3) W :=
          ⟨H.c.1, H.c.2.2, (cell_of_heap hn7).1, (cell_of_heap hn9).1, RS.of_owns o1, RS.of_owns o2, RS.of_owns o4, RS.of_owns o5, RS.of_owns o3⟩
        have HG0 := Lib.hid HG
        clear hall H o1 o2 o3 o4 o5 hn7 hn9 HG HH2 HH1 d1
        have hC : (fun W => W.cell? ⟨p, 0, none⟩ = some (.int .i64 wd) ∧ W.cell? ⟨p, 1, none⟩ = some (.slice a1 hs.length c1) ∧ W.cell? ⟨p, 2, none⟩ = some (.slice a2 ss.length c2) ∧ W.cell? ⟨q, 0, none⟩ = some (.int .i64 wd) ∧ W.cell? ⟨q, 1, none⟩ = some (.slice a4 hs.length c4) ∧ W.cell? ⟨q, 2, none⟩ = some (.slice a5 ss.length c5)) W.drew := ⟨HG0.out.o.1, HG0.out.o.2.1, HG0.out.o.2.2, HG0.out.r.1, HG0.out.r.2.1, HG0.out.r.2.2⟩
        have HG1 := Lib.hid (HG0.out.grow (Below.refl _ W).drew)
        clear HG0
        go_wp2_with fail
        refine Lim.regC' (fun W => W.cell? ⟨p, 0, none⟩ = some (.int .i64 wd) ∧ W.cell? ⟨p, 1, none⟩ = some (.slice a1 hs.length c1) ∧ W.cell? ⟨p, 2, none⟩ = some (.slice a2 ss.length c2) ∧ W.cell? ⟨q, 0, none⟩ = some (.int .i64 wd) ∧ W.cell? ⟨q, 1, none⟩ = some (.slice a4 hs.length c4) ∧ W.cell? ⟨q, 2, none⟩ = some (.slice a5 ss.length c5)) [] #[false, false, false, false, false] (by kernel_rfl) rfl ?_
        refine Lim.stepR 0 (fun _ => trivial) rfl (by kernel_rfl) (fun _ _ _ _ h => h) hC rfl ?_; apply Exists.intro; refine ⟨?_, ?_⟩
        · rintro w ⟨r1, r2, r3, r4, r5, r6⟩; go_simp; try with_reducible rfl
        simp only [Act.put, List.setIfInBounds_toArray, List.set_cons_succ, List.set_cons_zero]
        refine Lim.stepR 2 (fun _ => trivial) rfl (by kernel_rfl) (fun _ _ _ _ h => h) hC rfl ?_; apply Exists.intro; refine ⟨?_, ?_⟩
        · rintro w ⟨r1, r2, r3, r4, r5, r6⟩; go_simp; try with_reducible rfl
        simp only [Act.put, List.setIfInBounds_toArray, List.set_cons_succ, List.set_cons_zero]
        refine Lim.stepE 1 (fun _ => trivial) rfl (by kernel_rfl) rfl (fun K hK => ?_)   -- E call
        go_simp
        refine ⟨rfl, (callsIn_wide.2 (Check_any (Nat.le_refl _) HG1.out.h1 HG1.out.s1)).mono ?_⟩
        rintro e W2 ⟨rfl, hb⟩
        have HG2 := Lib.hid (HG1.out.grow hb)
        have hC2 : (fun W => W.cell? ⟨p, 0, none⟩ = some (.int .i64 wd) ∧ W.cell? ⟨p, 1, none⟩ = some (.slice a1 hs.length c1) ∧ W.cell? ⟨p, 2, none⟩ = some (.slice a2 ss.length c2) ∧ W.cell? ⟨q, 0, none⟩ = some (.int .i64 wd) ∧ W.cell? ⟨q, 1, none⟩ = some (.slice a4 hs.length c4) ∧ W.cell? ⟨q, 2, none⟩ = some (.slice a5 ss.length c5)) W2 := ⟨HG2.out.o.1, HG2.out.o.2.1, HG2.out.o.2.2, HG2.out.r.1, HG2.out.r.2.1, HG2.out.r.2.2⟩
        clear hb HG1
        refine hK _ _ hC2 ?_
        simp only [Act.put, List.setIfInBounds_toArray, List.set_cons_succ, List.set_cons_zero]
        refine Lim.stepE 3 (fun _ => trivial) rfl (by kernel_rfl) rfl (fun K hK => ?_)   -- E call
        go_simp
        refine ⟨rfl, (callsIn_wide.2 (rcheck_any (Nat.le_refl _) HG2.out.h2 HG2.out.s2)).mono ?_⟩
        rintro e W3 ⟨rfl, hb⟩
        have HG3 := Lib.hid (HG2.out.grow hb)
        have hC3 : (fun W => W.cell? ⟨p, 0, none⟩ = some (.int .i64 wd) ∧ W.cell? ⟨p, 1, none⟩ = some (.slice a1 hs.length c1) ∧ W.cell? ⟨p, 2, none⟩ = some (.slice a2 ss.length c2) ∧ W.cell? ⟨q, 0, none⟩ = some (.int .i64 wd) ∧ W.cell? ⟨q, 1, none⟩ = some (.slice a4 hs.length c4) ∧ W.cell? ⟨q, 2, none⟩ = some (.slice a5 ss.length c5)) W3 := ⟨HG3.out.o.1, HG3.out.o.2.1, HG3.out.o.2.2, HG3.out.r.1, HG3.out.r.2.1, HG3.out.r.2.2⟩
        clear hb HG2
        refine hK _ _ hC3 ?_
        simp only [Act.put, List.setIfInBounds_toArray, List.set_cons_succ, List.set_cons_zero]
        refine Lim.stepR 4 (fun _ => trivial) rfl (by kernel_rfl) (fun _ _ _ _ h => h) hC3 rfl ?_; apply Exists.intro; refine ⟨?_, ?_⟩
        · rintro w ⟨r1, r2, r3, r4, r5, r6⟩; go_simp; try with_reducible rfl
        simp only [Act.put, List.setIfInBounds_toArray, List.set_cons_succ, List.set_cons_zero]
        refine Lim.stepD (by kernel_rfl) ?_
        have hne : (openErr wd hs ss != openErr wd hs ss) = false := by simp
        have HG3' := HG3.out
        obtain ⟨o0, o1, o2⟩ := HG3'.o
        obtain ⟨r0, r1, r2⟩ := HG3'.r
        clear HG3' hC hC2 hC3
        go_wp2_with fail
        clear o0 o1 o2 hne
        refine (Drains_any (B := W3.heap.size) (Nat.le_refl _) HG3.out.h1 HG3.out.s1 HG3.out.m).mono ?_
        rintro e W4 ⟨va, ea, la, rfl, hb, hda, hoa⟩
        have HG4 := Lib.hid (HG3.out.grow hb)
        have HDA := Lib.hid hda
        obtain ⟨aa, ac, rfl, -⟩ := RS.of_owns hoa
        have HOA := Lib.hid (RS.of_owns hoa)
        clear hb HG3 hda hoa r0 r1 r2
        obtain ⟨r0, r1, r2⟩ := HG4.out.r
        go_wp2_with fail
        refine (rdrains_any (B := W4.heap.size) (Nat.le_refl _) HG4.out.h2 HG4.out.s2 ((HHS.out.2.2.below (HG4.out.b.mono HB.out)).mono (by have h1 := HB.out; have h2 := HG4.out.b.size; omega))).mono ?_
        rintro e W5 ⟨vb, eb, lb, rfl, hb, hdb, hob⟩
        obtain ⟨rfl, rfl⟩ := HDA.out.unique hdb
        have HG5 := Lib.hid (HG4.out.grow hb)
        obtain ⟨ba, bc, rfl, -⟩ := RS.of_owns hob
        have HOB := Lib.hid (And.intro ((HOA.out.below hb).mono hb.size) (RS.of_owns hob))
        have hla := HDA.out.length
        clear hb HG4 hdb hob r0 r1 r2 HOA
        have hne : (ea != ea) = false := by simp
        have hne2 : ((la.length : Int) != (la.length : Int)) = false := by simp
        go_wp2_with fail
        go_loopw [62] (fun i wr => ∃ k : Nat, k ≤ la.length ∧ i = .int .i64 k ∧ Below W5.heap.size W5 wr) (fun i _ => la.length - (intOf i).toNat)
        case atStart => exact ⟨0, Nat.zero_le _, rfl, Below.refl _ _⟩
        case round =>
          obtain ⟨k, hk, rfl, hbr⟩ := hrel
          by_cases hlt : k < la.length
          · have hkb : (k : Int) < 1000 := by omega
            obtain ⟨aa', ac', e1, g1⟩ := HOB.out.1
            obtain ⟨ba', bc', e2, g2⟩ := HOB.out.2
            obtain ⟨ab, aoff, h1, hab, hac⟩ := g1 (ints_ne (by omega))
            obtain ⟨bb, boff, h2, hbb, hbc⟩ := g2 (ints_ne (by omega))
            have e1' : aa = some ⟨ab, aoff, none⟩ := by rw [← h1]; injection e1
            have e2' : ba = some ⟨bb, boff, none⟩ := by rw [← h2]; injection e2
            subst e1' e2'
            obtain ⟨x, hx⟩ : ∃ x, x = la[k] := ⟨_, rfl⟩
            have q1 : wr.cell? ⟨ab, aoff + k, none⟩ = some (.int .i64 x) := by rw [hx]; exact cell_on hbr (hac k _ (ints_at la k hlt))
            have q2 : wr.cell? ⟨bb, boff + k, none⟩ = some (.int .i64 x) := by rw [hx]; exact cell_on hbr (hbc k _ (ints_at la k hlt))
            have hxx : (x != x) = false := by simp
            clear hx hac hbc g1 g2 h1 h2 e1 e2 hne hne2
            go_wp2_with fail
            go_quiet (fail)
            go_wp2_with fail
            go_roundw
            case rel => exact ⟨k + 1, by omega, by go_num, below_drewN hbr _⟩
            case measure => simp [intOf]; omega
          · obtain rfl : k = la.length := by omega
            have HG6 := Lib.hid (HG5.out.grow hbr)
            clear hbr HG5 hne hne2 HOB hla hk hlt HDA
            obtain ⟨o0, o1, o2⟩ := HG6.out.o
            go_wp2_with fail
            refine (Passes_any (B := wr.heap.size) (Nat.le_refl _) HG6.out.h1 HG6.out.s1).mono ?_
            rintro e W7 ⟨vp, ep, lp, rfl, hb, hpa, hop⟩
            have HG7 := Lib.hid (HG6.out.grow hb)
            have HPA := Lib.hid hpa
            obtain ⟨pa, pc, rfl, -⟩ := RS.of_owns hop
            have HOP := Lib.hid (RS.of_owns hop)
            clear hb HG6 hpa hop o0 o1 o2
            obtain ⟨r0, r1, r2⟩ := HG7.out.r
            go_wp2_with fail
            refine (rpasses_any (B := W7.heap.size) (Nat.le_refl _) HG7.out.h2 HG7.out.s2).mono ?_
            rintro e W8 ⟨vq, eq, lq, rfl, hb, hpb, hoq⟩
            obtain ⟨rfl, rfl⟩ := HPA.out.unique hpb
            have HG8 := Lib.hid (HG7.out.grow hb)
            obtain ⟨qa, qc, rfl, -⟩ := RS.of_owns hoq
            have HOQ := Lib.hid (And.intro ((HOP.out.below hb).mono hb.size) (RS.of_owns hoq))
            have HLP := Lib.hid HPA.out.length
            clear hb HG7 hpb hoq r0 r1 r2 HOP
            have hne : (ep != ep) = false := by simp
            go_wp2_with fail
            refine (equal_spans (by have := HLP.out; omega) HOQ.out.1 HOQ.out.2).mono ?_
            rintro e W9 ⟨rfl, hb⟩
            have HG9 := Lib.hid (HG8.out.grow hb)
            have et : decide (lp = lp) = true := by simp
            rw [et]
            clear et hb HG8 HOQ hne
            obtain ⟨o0, o1, o2⟩ := HG9.out.o
            go_wp2_with fail
            refine (Saddle_any (B := W9.heap.size) (Nat.le_refl _) HG9.out.h1 HG9.out.s1).mono ?_
            rintro e W10 ⟨x, y, es, rfl, hb, hsa⟩
            have HG10 := Lib.hid (HG9.out.grow hb)
            have HSA := Lib.hid hsa
            clear hb HG9 hsa o0 o1 o2
            have hb : Below W10.heap.size W10 (W10.alloc (.cells #[.int .i64 x, .int .i64 y] 54)) := (Below.refl _ _).alloc (Nat.le_refl _) _
            have hsp0 := cell_new W10 #[.int .i64 x, .int .i64 y] 54 0 (by simp)
            have hsp1 := cell_new W10 #[.int .i64 x, .int .i64 y] 54 1 (by simp)
            have HG11 := Lib.hid (HG10.out.grow hb)
            have HPS := Lib.hid (And.intro hsp0 hsp1)
            clear hb HG10 hsp0 hsp1
            obtain ⟨r0, r1, r2⟩ := HG11.out.r
            go_wp2_with fail
            generalize (W10.alloc (.cells #[.int .i64 x, .int .i64 y] 54)) = W11 at HG11 HPS r0 r1 r2 ⊢
            refine (rsaddle_any (B := W11.heap.size) (Nat.le_refl _) HG11.out.h2 HG11.out.s2).mono ?_
            rintro e W12 ⟨x', y', es', rfl, hsb, hb⟩
            obtain ⟨rfl, rfl, rfl⟩ := HSA.out.unique hsb
            have HG12 := Lib.hid (HG11.out.grow hb)
            have hsp0 := cell_on hb HPS.out.1
            have hsp1 := cell_on hb HPS.out.2
            have hlt := World.block_lt_of_cell? _ _ hsp0
            have hb2 : Below W12.heap.size W12 (W12.alloc (.cells #[.int .i64 x, .int .i64 y] 54)) := (Below.refl _ _).alloc (Nat.le_refl _) _
            have hsq0 := cell_new W12 #[.int .i64 x, .int .i64 y] 54 0 (by simp)
            have hsq1 := cell_new W12 #[.int .i64 x, .int .i64 y] 54 1 (by simp)
            have HG13 := Lib.hid (HG12.out.grow hb2)
            replace hsp0 := cell_on hb2 hsp0
            replace hsp1 := cell_on hb2 hsp1
            clear hb hb2 HG11 HG12 HPS HSA hsb r0 r1 r2 hlt
            obtain ⟨o0, o1, o2⟩ := HG13.out.o
            obtain ⟨g0, g1, g2⟩ := HG13.out.g
            have hxx : (x == x) = true := by simp
            have hyy : (y == y) = true := by simp
            have hee : (es == es) = true := by simp
            go_wp2_with fail
            clear o0 o1 o2 g0 g1 g2 hsp0 hsp1 hsq0 hsq1 hxx hyy hee
            generalize (W12.alloc (.cells #[.int .i64 x, .int .i64 y] 54)) = W13 at HG13 ⊢
            refine (same_any (B := W13.heap.size) (B2 := B) (Nat.le_refl _) (by have h1 := HB.out; have h2 := HG13.out.b.size; omega) (by have := HL.out; omega) (by have := HL.out; omega) HG13.out.h1 HG13.out.s1 (HHS.out.1.below (HG13.out.b.mono HB.out)) (HHS.out.2.1.below (HG13.out.b.mono HB.out))).mono ?_
            rintro e W14 ⟨rfl, hb⟩
            have HG14 := Lib.hid (HG13.out.grow hb)
            clear hb HG13
            go_wp2_with fail
            refine (equal_ints (B1 := W14.heap.size) (B2 := B) (by have := HTL.out; omega) HG14.out.m (HHS.out.2.2.below (HG14.out.b.mono HB.out))).mono ?_
            rintro e W15 ⟨rfl, hb⟩
            have HG15 := Lib.hid (HG14.out.b.trans (hb.mono HG14.out.b.size))
            have et : decide (T = T) = true := by simp
            rw [et]
            clear et hb HG14
            go_wp2_with fail
            refine (awake_any _).mono ?_
            rintro e W16 ⟨rfl, hb⟩
            have HG16 := Lib.hid (HG15.out.trans (hb.mono HG15.out.size))
            clear hb HG15
            go_wp2
            go_ret
            exact ⟨rfl, HG16.out⟩
end Go.Proofs.Ytdgibmgifgdpbaa
