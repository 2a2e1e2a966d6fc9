/-
  Parts of the proof, in the order in which they build: CoH.
-/
import Derived.OwnWalk
import Derived.Deep.CutRange
import Derived.Test.YtiacgaplhndlnaaF42
set_option linter.unusedVariables false
set_option linter.unusedSimpArgs false
namespace Go.Proofs.Ytiacgaplhndlnaa
open Go.RowKit Go.Shelf
open Lim
attribute [local go_sem] Oper.semAt_some

theorem DeskAt.set {w : World} {b C n : Nat} {sv : Value} {F R : List Int} (h : DeskAt w b C sv F R) (hn : n < 14) (hF : F.length = 14) (hR : R.length = 14) (v r : Int) :
    DeskAt ((w.setCell ⟨b, 31 + n, none⟩ (.int .i64 v)).setCell ⟨b, 45 + n, none⟩ (.int .i64 r)) b C sv (F.set n v) (R.set n r) := by
  have off : ∀ j u, j ≠ 31 + n → j ≠ 45 + n → w.cell? ⟨b, j, none⟩ = some u → ((w.setCell ⟨b, 31 + n, none⟩ (.int .i64 v)).setCell ⟨b, 45 + n, none⟩ (.int .i64 r)).cell? ⟨b, j, none⟩ = some u := fun j u h1 h2 hc => by
    rw [setCell_off _ _ (Ne.symm h2), setCell_off _ _ (Ne.symm h1)]; exact hc
  refine ⟨by simpa [World.setCell] using h.lt, off 0 _ (by omega) (by omega) h.c0, off 1 _ (by omega) (by omega) h.c1, fun k hk => off _ _ (by omega) (by omega) (h.rf k hk), fun k hk => off _ _ (by omega) (by omega) (h.su k hk), fun k hk => ?_, fun k hk => ?_, fun k hk => (World.frozen?_setCell ..).trans ((World.frozen?_setCell ..).trans (h.fz k hk))⟩
  · rw [fdg_set (by omega)]
    by_cases e : k = n
    · subst e
      rw [if_pos rfl, setCell_off _ _ (by omega)]
      exact setCell_same _ _ (h.fo k hk)
    · rw [if_neg e]
      exact off _ _ (by omega) (by omega) (h.fo k hk)
  · rw [fdg_set (by omega)]
    by_cases e : k = n
    · subst e
      rw [if_pos rfl]
      exact setCell_same _ _ ((setCell_off _ _ (by omega)).trans (h.ra k hk))
    · rw [if_neg e]
      exact off _ _ (by omega) (by omega) (h.ra k hk)
theorem DeskW.set {B b C n sc : Nat} {sa : Option Addr} {S : List (Nat × Nat)} {F R : List Int} {w : World} (h : DeskW B b C sa sc S F R w) (hn : n < 14) (hF : F.length = 14) (hR : R.length = 14) (v r : Int) :
    DeskW B b C sa sc S (F.set n v) (R.set n r) ((w.setCell ⟨b, 31 + n, none⟩ (.int .i64 v)).setCell ⟨b, 45 + n, none⟩ (.int .i64 r)) :=
  ⟨h.d.set hn hF hR v r, h.r.below (((Below.refl _ w).setCell (p := ⟨b, 31 + n, none⟩) h.bB _).setCell (p := ⟨b, 45 + n, none⟩) h.bB _), by simpa [World.setCell] using h.sB, h.bB, h.k⟩
set_option maxRecDepth 20000 in
set_option maxHeartbeats 400000 in
theorem steps_any (b : Nat) (w : World) : Calls Try.prog 112 #[.pointer (some ⟨b, 0, none⟩)] w fun e w' => e = .returned (.agg #[.func (.func 148) #[] #[.pointer (some ⟨w.heap.size, 0, none⟩)], .int .i64 2, .func (.func 90) #[.pointer (some ⟨b, 0, none⟩)] #[], .int .i64 1]) ∧ Below w.heap.size w w' ∧ w'.cell? ⟨w.heap.size, 0, none⟩ = some (.pointer (some ⟨b, 0, none⟩)) := by
  go_enter Try.func112, Try.ntmps112
  go_wp2_with fail
  have hg := heap_alloc_new (w.alloc (.cells #[.pointer (some ⟨b, 0, none⟩)] 103)) (.cells #[.func (.func 148) #[] #[.pointer (some ⟨w.heap.size, 0, none⟩)], .int .i64 2, .func (.func 90) #[.pointer (some ⟨b, 0, none⟩)] #[], .int .i64 1] 198)
  rw [show (w.alloc (.cells #[.pointer (some ⟨b, 0, none⟩)] 103)).heap.size = w.heap.size + 1 by simp] at hg
  exact bodyPost_ret (results_cell_row rfl _ _ (w.heap.size + 1) _ _ (0, 0) _ (by rfl) hg Try.underlying198 (by rfl) (by kernel_rfl)) rfl ⟨rfl, ((Below.refl _ w).alloc (Nat.le_refl _) _).alloc (by simp) _, by simp [go_sem]⟩
theorem steps_at0 (a b c d : Value) (w : World) : (Instr.index 198 (.agg #[a, b, c, d]) (.int .i64 0)).run Try.prog w = .ok (.agg #[a, b]) w := by
  simp [Instr.index, Try.underlying198, go_sem]
theorem steps_at1 (a b c d : Value) (w : World) : (Instr.index 198 (.agg #[a, b, c, d]) (.int .i64 1)).run Try.prog w = .ok (.agg #[c, d]) w := by
  simp [Instr.index, Try.underlying198, go_sem]
set_option maxHeartbeats 400000 in
theorem steps1_any {B b C n sc q : Nat} {sa : Option Addr} {S : List (Nat × Nat)} {F R : List Int} {w : World} (hn : n < 14) (hd : DeskW B b C sa sc S F R w) (hq : w.cell? ⟨q, 0, none⟩ = some (.pointer (some ⟨b, 0, none⟩))) :
    Calls Try.prog 148 #[.int .i64 n, .pointer (some ⟨q, 0, none⟩)] w fun e w' => e = .returned (.bool (strk F n 1 S)) ∧ Below w.heap.size w w' := by
  have HD := Lib.hid hd
  clear hd
  go_enter Try.func148, Try.ntmps148
  go_wp2_with fail
  refine (struck_any hn HD.out).mono ?_
  rintro e w1 ⟨rfl, hb⟩
  have HB := Lib.hid hb
  clear hb
  go_wp2
  go_ret
  exact ⟨rfl, HB.out⟩
/-- what hearing a claim leaves in memory -/
def HearAns (B b C : Nat) (sa : Option Addr) (sc : Nat) (S : List (Nat × Nat)) (F R : List Int) (n : Nat) (w : World) (e : Ending) (w' : World) : Prop :=
  e = .returned (.tuple #[]) ∧ DeskW B b C sa sc S (hearS S F R n).1 (hearS S F R n).2 w' ∧ Sep (fun k => k = b) w w'
set_option maxRecDepth 20000 in
set_option maxHeartbeats 4000000 in
theorem hear_any {B b C n sc : Nat} {sa : Option Addr} {S : List (Nat × Nat)} {F R : List Int} {w : World} (hn : n < 14) (hd : DeskW B b C sa sc S F R w) (hF : F.length = 14) (hR : R.length = 14) (hr : ∀ k, 0 ≤ fdg R k ∧ fdg R k ≤ 1000) :
    Calls Try.prog 73 #[.pointer (some ⟨b, 0, none⟩), .int .i64 n] w fun e w' => HearAns B b C sa sc S F R n w e w' := by
  have HD := Lib.hid hd
  have HL := Lib.hid (And.intro hF (And.intro hR hr))
  have d0 := hd.d.fo n hn
  have hn14 : (n : Int) < 14 := by omega
  obtain ⟨v, hv⟩ : ∃ v, v = fdg F n := ⟨_, rfl⟩
  rw [← hv] at d0
  have HV := Lib.hid hv
  clear hd hF hR hr hv
  by_cases h0 : v = 0
  · have t0 : (v != 0) = false := by rw [h0]; rfl
    have HV0 : Hid (fdg F n = 0) := Lib.hid (by rw [← HV.out]; exact h0)
    clear h0
    go_enter Try.func73, Try.ntmps73
    go_wp2_with fail
    refine (steps_any b w).mono ?_
    rintro e w1 ⟨rfl, hb, hq⟩
    have HD1 := Lib.hid (HD.out.on hb)
    have HB1 : Hid (Below w.heap.size w w1) := Lib.hid hb
    have HQ : Hid (w1.cell? ⟨w.heap.size, 0, none⟩ = some (.pointer (some ⟨b, 0, none⟩))) := Lib.hid hq
    clear hb hq d0 t0
    go_wp2_with fail
    go_loopw [15] (fun iv wr => ∃ i : Nat, i ≤ 2 ∧ iv = .int .i64 i ∧ Hid (Below w1.heap.size w1 wr ∧ (1 ≤ i → strk F n 1 S = false) ∧ (2 ≤ i → strk F n 0 S = true))) (fun iv _ => 2 - (intOf iv).toNat)
    case atStart => exact ⟨0, by omega, rfl, Lib.hid ⟨Below.refl _ _, fun h => by omega, fun h => by omega⟩⟩
    case round =>
      obtain ⟨i, hi, rfl, hI⟩ := hrel
      have HD2 := Lib.hid (HD1.out.on hI.out.1)
      by_cases hi2 : i = 2
      · subst hi2
        go_wp2_with fail
        refine bodyPost_end (results_none rfl _ _ _) rfl ?_
        have e : hearS S F R n = (F, R) := by unfold hearS; rw [if_neg (by rw [HV0.out]; decide), if_neg (by rw [hI.out.2.1 (by omega)]; decide), if_pos (hI.out.2.2 (Nat.le_refl _))]
        refine ⟨rfl, ?_, Sep.of_below (HB1.out.trans (hI.out.1.mono HB1.out.size))⟩
        rw [e]; exact HD2.out
      · by_cases hi1 : i = 1
        · subst hi1
          have LK := steps_at1 (.func (.func 148) #[] #[.pointer (some ⟨w.heap.size, 0, none⟩)]) (.int .i64 2) (.func (.func 90) #[.pointer (some ⟨b, 0, none⟩)] #[]) (.int .i64 1) wr
          have hsb : Below wr.heap.size wr (wr.alloc (.cells #[.func (.func 90) #[.pointer (some ⟨b, 0, none⟩)] #[], .int .i64 1] 197)) := (Below.refl _ wr).alloc (Nat.le_refl _) _
          have HBS := Lib.hid hsb
          have HD3 := Lib.hid (HD2.out.on hsb)
          have HB3 := Lib.hid ((HB1.out.trans (hI.out.1.mono HB1.out.size)).trans (hsb.mono (Nat.le_trans HB1.out.size hI.out.1.size)))
          have e0 : (wr.alloc (.cells #[.func (.func 90) #[.pointer (some ⟨b, 0, none⟩)] #[], .int .i64 1] 197)).cell? ⟨wr.heap.size, 0, none⟩ = some (.func (.func 90) #[.pointer (some ⟨b, 0, none⟩)] #[]) := by simp [go_sem]
          have e1 : (wr.alloc (.cells #[.func (.func 90) #[.pointer (some ⟨b, 0, none⟩)] #[], .int .i64 1] 197)).cell? ⟨wr.heap.size, 1, none⟩ = some (.int .i64 1) := by simp [go_sem]
          clear hsb
          go_upto_region 4 with (fail)
          generalize wr.alloc (.cells #[.func (.func 90) #[.pointer (some ⟨b, 0, none⟩)] #[], .int .i64 1] 197) = w3 at HD3 HB3 HBS e0 e1 ⊢
          go_wp2_with fail
          refine (cfree_any hn HD3.out).mono ?_
          rintro e w4 ⟨rfl, hb⟩
          have HD4 := Lib.hid (HD3.out.on hb)
          have HB4 := Lib.hid (HB3.out.trans (hb.mono HB3.out.size))
          have HB14 : Hid (Below w1.heap.size w1 w4) := Lib.hid (hI.out.1.trans (((Below.refl _ wr).trans HBS.out).mono hI.out.1.size |>.trans (hb.mono (Nat.le_trans hI.out.1.size HBS.out.size))))
          replace e1 := hb.on e1
          have hne : wr.heap.size ≠ b := by have := HD2.out.d.lt; omega
          clear e0 hb LK
          rw [hI.out.2.1 (Nat.le_refl _)]
          obtain ⟨z, hz⟩ : ∃ z, z = strk F n 0 S := ⟨_, rfl⟩
          rw [← hz]
          have HZ := Lib.hid hz
          clear hz
          cases z with
          | true =>
            clear e1
            go_wp2_with fail
            go_roundw
            case rel => exact ⟨2, Nat.le_refl _, rfl, Lib.hid ⟨HB14.out, hI.out.2.1 ∘ fun _ => Nat.le_refl _, fun _ => HZ.out.symm⟩⟩
            case measure => simp [intOf]
          | false =>
            have HE : Hid (hearS S F R n = (F.set n 1, R.set n (nxtR R n S 1))) := Lib.hid (by unfold hearS; rw [if_neg (by rw [HV0.out]; decide), if_neg (by rw [hI.out.2.1 (by omega)]; decide), if_neg (by rw [← HZ.out]; decide)])
            go_upto_region 5 with (fail)
            have HD5 := Lib.hid (HD4.out.on (Below.refl _ w4).drew)
            have HB5 := Lib.hid HB4.out.drew
            have hC : (fun W => W.cell? ⟨wr.heap.size, 1, none⟩ = some (.int .i64 1)) w4.drew := e1
            clear e1 HD4 HB4
            generalize hW0 : w4.drew = w5 at HD5 HB5 hC
            refine Lim.regC' (fun W => W.cell? ⟨wr.heap.size, 1, none⟩ = some (.int .i64 1)) [] #[false, false, false, false, false, false, false, false, false, false, false, false, false, false, false, false, false] (by kernel_rfl) rfl ?_
            rw [hW0]; clear hW0
            refine Lim.stepR 0 (fun _ => trivial) rfl (by kernel_rfl) (fun _ _ _ _ h => h) hC rfl ?_; apply Exists.intro; refine ⟨?_, ?_⟩
            · rintro w r1; go_simp; try with_reducible rfl
            simp only [Act.put, List.setIfInBounds_toArray, List.set_cons_succ, List.set_cons_zero]
            refine Lim.stepR 1 (fun _ => trivial) rfl (by kernel_rfl) (fun _ _ _ _ h => h) hC rfl ?_; apply Exists.intro; refine ⟨?_, ?_⟩
            · rintro w r1; go_simp; try with_reducible rfl
            simp only [Act.put, List.setIfInBounds_toArray, List.set_cons_succ, List.set_cons_zero]
            refine Lim.stepR 2 (fun _ => trivial) rfl (by kernel_rfl) (fun _ _ _ _ h => h) hC rfl ?_; apply Exists.intro; refine ⟨?_, ?_⟩
            · rintro w r1; go_simp; try with_reducible rfl
            simp only [Act.put, List.setIfInBounds_toArray, List.set_cons_succ, List.set_cons_zero]
            refine Lim.stepR 3 (fun _ => trivial) rfl (by kernel_rfl) (fun _ _ _ _ h => h) hC rfl ?_; apply Exists.intro; refine ⟨?_, ?_⟩
            · rintro w r1; go_simp; try with_reducible rfl
            simp only [Act.put, List.setIfInBounds_toArray, List.set_cons_succ, List.set_cons_zero]
            refine Lim.stepR 4 (fun _ => trivial) rfl (by kernel_rfl) (fun _ _ _ _ h => h) hC rfl ?_; apply Exists.intro; refine ⟨?_, ?_⟩
            · rintro w r1; go_simp; try with_reducible rfl
            simp only [Act.put, List.setIfInBounds_toArray, List.set_cons_succ, List.set_cons_zero]
            refine Lim.stepR 5 (fun _ => trivial) rfl (by kernel_rfl) (fun _ _ _ _ h => h) hC rfl ?_; apply Exists.intro; refine ⟨?_, ?_⟩
            · rintro w r1; go_simp; try with_reducible rfl
            simp only [Act.put, List.setIfInBounds_toArray, List.set_cons_succ, List.set_cons_zero]
            refine Lim.stepR 6 (fun _ => trivial) rfl (by kernel_rfl) (fun _ _ _ _ h => h) hC rfl ?_; apply Exists.intro; refine ⟨?_, ?_⟩
            · rintro w r1; go_simp; try with_reducible rfl
            simp only [Act.put, List.setIfInBounds_toArray, List.set_cons_succ, List.set_cons_zero]
            refine Lim.stepR 7 (fun _ => trivial) rfl (by kernel_rfl) (fun _ _ _ _ h => h) hC rfl ?_; apply Exists.intro; refine ⟨?_, ?_⟩
            · rintro w r1; go_simp; try with_reducible rfl
            simp only [Act.put, List.setIfInBounds_toArray, List.set_cons_succ, List.set_cons_zero]
            refine Lim.stepR 9 (fun _ => trivial) rfl (by kernel_rfl) (fun _ _ _ _ h => h) hC rfl ?_; apply Exists.intro; refine ⟨?_, ?_⟩
            · rintro w r1; go_simp; try with_reducible rfl
            simp only [Act.put, List.setIfInBounds_toArray, List.set_cons_succ, List.set_cons_zero]
            refine Lim.stepR 10 (fun _ => trivial) rfl (by kernel_rfl) (fun _ _ _ _ h => h) hC rfl ?_; apply Exists.intro; refine ⟨?_, ?_⟩
            · rintro w r1; go_simp; try with_reducible rfl
            simp only [Act.put, List.setIfInBounds_toArray, List.set_cons_succ, List.set_cons_zero]
            refine Lim.stepR 13 (fun _ => trivial) rfl (by kernel_rfl) (fun _ _ _ _ h => h) hC rfl ?_; apply Exists.intro; refine ⟨?_, ?_⟩
            · rintro w r1; go_simp; try with_reducible rfl
            simp only [Act.put, List.setIfInBounds_toArray, List.set_cons_succ, List.set_cons_zero]
            refine Lim.stepR 14 (fun _ => trivial) rfl (by kernel_rfl) (fun _ _ _ _ h => h) hC rfl ?_; apply Exists.intro; refine ⟨?_, ?_⟩
            · rintro w r1; go_simp; try with_reducible rfl
            simp only [Act.put, List.setIfInBounds_toArray, List.set_cons_succ, List.set_cons_zero]
            refine Lim.stepE 8 (fun _ => trivial) rfl (by kernel_rfl) rfl (fun K hK => ?_)   -- E call
            go_simp
            refine ⟨rfl, (callsIn_wide.2 (next_any hn HD5.out HL.out.2.2)).mono ?_⟩
            rintro e w6 ⟨rfl, hb⟩
            have HD6 := Lib.hid (HD5.out.on hb)
            have HB6 := Lib.hid (HB5.out.trans (hb.mono HB5.out.size))
            have hC2 : (fun W => W.cell? ⟨wr.heap.size, 1, none⟩ = some (.int .i64 1)) w6 := hb.on hC
            refine hK _ _ hC2 ?_
            clear hb hC HD5 HB5
            obtain ⟨r, hr⟩ : ∃ r, r = nxtR R n S 1 := ⟨_, rfl⟩
            rw [← hr] at HE ⊢
            clear hr
            simp only [Act.put, List.setIfInBounds_toArray, List.set_cons_succ, List.set_cons_zero]
            refine Lim.stepR 11 (fun _ => trivial) rfl (by kernel_rfl) (fun _ _ _ _ h => h) hC2 rfl ?_; apply Exists.intro; refine ⟨?_, ?_⟩
            · rintro w r1; go_simp; try with_reducible rfl
            simp only [Act.put, List.setIfInBounds_toArray, List.set_cons_succ, List.set_cons_zero]
            refine Lim.stepE 12 (fun _ => trivial) rfl (by kernel_rfl) rfl (fun K hK => ?_)   -- E store
            have z0 := HD6.out.d.fo n hn
            have zf := HD6.out.d.fz (31 + n) (by omega)
            go_simp
            have hC3 : (fun W => W.cell? ⟨wr.heap.size, 1, none⟩ = some (.int .i64 1)) (w6.setCell ⟨b, 31 + n, none⟩ (.int .i64 1)) := (setCell_far _ _ (Ne.symm hne)).trans hC2
            refine hK _ _ hC3 ?_
            clear z0 zf hC2
            have HD7 := Lib.hid (HD6.out.set hn HL.out.1 HL.out.2.1 1 r)
            have z1 : (w6.setCell ⟨b, 31 + n, none⟩ (.int .i64 1)).cell? ⟨b, 45 + n, none⟩ = some (.int .i64 (fdg R n)) := (setCell_off _ _ (by omega)).trans (HD6.out.d.ra n hn)
            have zf1 : (w6.setCell ⟨b, 31 + n, none⟩ (.int .i64 1)).frozen? ⟨b, 45 + n, none⟩ = false := (World.frozen?_setCell ..).trans (HD6.out.d.fz (45 + n) (by omega))
            have HS7 : Hid (Sep (fun k => k = b) w (w6.setCell ⟨b, 31 + n, none⟩ (.int .i64 1))) := Lib.hid ((Sep.of_below HB6.out).trans (Sep.set _ _ _ _))
            clear HD6 HB6
            generalize w6.setCell ⟨b, 31 + n, none⟩ (.int .i64 1) = w7 at HD7 z1 zf1 HS7 hC3 ⊢
            simp only [Act.put, List.setIfInBounds_toArray, List.set_cons_succ, List.set_cons_zero]
            refine Lim.stepR 15 (fun _ => trivial) rfl (by kernel_rfl) (fun _ _ _ _ h => h) hC3 rfl ?_; apply Exists.intro; refine ⟨?_, ?_⟩
            · rintro w r1; go_simp; try with_reducible rfl
            simp only [Act.put, List.setIfInBounds_toArray, List.set_cons_succ, List.set_cons_zero]
            refine Lim.stepE 16 (fun _ => trivial) rfl (by kernel_rfl) rfl (fun K hK => ?_)   -- E store
            go_simp
            have HS8 := Lib.hid (HS7.out.trans (Sep.set w7 b (45 + n) (.int .i64 r)))
            have hC4 : (fun W => W.cell? ⟨wr.heap.size, 1, none⟩ = some (.int .i64 1)) (w7.setCell ⟨b, 45 + n, none⟩ (.int .i64 r)) := (setCell_far _ _ (Ne.symm hne)).trans hC3
            refine hK _ _ hC4 ?_
            clear z1 zf1 hC3
            generalize w7.setCell ⟨b, 45 + n, none⟩ (.int .i64 r) = w8 at HD7 HS8 hC4 ⊢
            simp only [Act.put, List.setIfInBounds_toArray, List.set_cons_succ, List.set_cons_zero]
            refine Lim.stepD (by kernel_rfl) ?_
            go_wp2
            refine bodyPost_ret (results_none rfl _ _ _) rfl ?_
            exact ⟨rfl, by rw [HE.out]; exact HD7.out, HS8.out⟩
        · obtain rfl : i = 0 := by omega
          have LK := steps_at0 (.func (.func 148) #[] #[.pointer (some ⟨w.heap.size, 0, none⟩)]) (.int .i64 2) (.func (.func 90) #[.pointer (some ⟨b, 0, none⟩)] #[]) (.int .i64 1) wr
          have hsb : Below wr.heap.size wr (wr.alloc (.cells #[.func (.func 148) #[] #[.pointer (some ⟨w.heap.size, 0, none⟩)], .int .i64 2] 197)) := (Below.refl _ wr).alloc (Nat.le_refl _) _
          have HBS := Lib.hid hsb
          have HD3 := Lib.hid (HD2.out.on hsb)
          have HQ3 := Lib.hid (hsb.on (hI.out.1.on HQ.out))
          have HB3 := Lib.hid ((HB1.out.trans (hI.out.1.mono HB1.out.size)).trans (hsb.mono (Nat.le_trans HB1.out.size hI.out.1.size)))
          have e0 : (wr.alloc (.cells #[.func (.func 148) #[] #[.pointer (some ⟨w.heap.size, 0, none⟩)], .int .i64 2] 197)).cell? ⟨wr.heap.size, 0, none⟩ = some (.func (.func 148) #[] #[.pointer (some ⟨w.heap.size, 0, none⟩)]) := by simp [go_sem]
          have e1 : (wr.alloc (.cells #[.func (.func 148) #[] #[.pointer (some ⟨w.heap.size, 0, none⟩)], .int .i64 2] 197)).cell? ⟨wr.heap.size, 1, none⟩ = some (.int .i64 2) := by simp [go_sem]
          clear hsb
          go_upto_region 4 with (fail)
          generalize wr.alloc (.cells #[.func (.func 148) #[] #[.pointer (some ⟨w.heap.size, 0, none⟩)], .int .i64 2] 197) = w3 at HD3 HB3 HQ3 HBS e0 e1 ⊢
          go_wp2_with fail
          refine (steps1_any hn HD3.out HQ3.out).mono ?_
          rintro e w4 ⟨rfl, hb⟩
          have HD4 := Lib.hid (HD3.out.on hb)
          have HB4 := Lib.hid (HB3.out.trans (hb.mono HB3.out.size))
          have HB14 : Hid (Below w1.heap.size w1 w4) := Lib.hid (hI.out.1.trans (((Below.refl _ wr).trans HBS.out).mono hI.out.1.size |>.trans (hb.mono (Nat.le_trans hI.out.1.size HBS.out.size))))
          replace e1 := hb.on e1
          have hne : wr.heap.size ≠ b := by have := HD2.out.d.lt; omega
          clear e0 hb LK
          obtain ⟨z, hz⟩ : ∃ z, z = strk F n 1 S := ⟨_, rfl⟩
          rw [← hz]
          have HZ := Lib.hid hz
          clear hz
          cases z with
          | false =>
            clear e1
            go_wp2_with fail
            go_roundw
            case rel => exact ⟨1, by omega, rfl, Lib.hid ⟨HB14.out, fun _ => HZ.out.symm, fun h => by omega⟩⟩
            case measure => simp [intOf]
          | true =>
            have HE : Hid (hearS S F R n = (F.set n 2, R.set n (nxtR R n S 1))) := Lib.hid (by unfold hearS; rw [if_neg (by rw [HV0.out]; decide), if_pos HZ.out.symm])
            go_upto_region 5 with (fail)
            have HD5 := Lib.hid (HD4.out.on (Below.refl _ w4).drew)
            have HB5 := Lib.hid HB4.out.drew
            have hC : (fun W => W.cell? ⟨wr.heap.size, 1, none⟩ = some (.int .i64 2)) w4.drew := e1
            clear e1 HD4 HB4
            generalize hW0 : w4.drew = w5 at HD5 HB5 hC
            refine Lim.regC' (fun W => W.cell? ⟨wr.heap.size, 1, none⟩ = some (.int .i64 2)) [] #[false, false, false, false, false, false, false, false, false, false, false, false, false, false, false, false, false] (by kernel_rfl) rfl ?_
            rw [hW0]; clear hW0
            refine Lim.stepR 0 (fun _ => trivial) rfl (by kernel_rfl) (fun _ _ _ _ h => h) hC rfl ?_; apply Exists.intro; refine ⟨?_, ?_⟩
            · rintro w r1; go_simp; try with_reducible rfl
            simp only [Act.put, List.setIfInBounds_toArray, List.set_cons_succ, List.set_cons_zero]
            refine Lim.stepR 1 (fun _ => trivial) rfl (by kernel_rfl) (fun _ _ _ _ h => h) hC rfl ?_; apply Exists.intro; refine ⟨?_, ?_⟩
            · rintro w r1; go_simp; try with_reducible rfl
            simp only [Act.put, List.setIfInBounds_toArray, List.set_cons_succ, List.set_cons_zero]
            refine Lim.stepR 2 (fun _ => trivial) rfl (by kernel_rfl) (fun _ _ _ _ h => h) hC rfl ?_; apply Exists.intro; refine ⟨?_, ?_⟩
            · rintro w r1; go_simp; try with_reducible rfl
            simp only [Act.put, List.setIfInBounds_toArray, List.set_cons_succ, List.set_cons_zero]
            refine Lim.stepR 3 (fun _ => trivial) rfl (by kernel_rfl) (fun _ _ _ _ h => h) hC rfl ?_; apply Exists.intro; refine ⟨?_, ?_⟩
            · rintro w r1; go_simp; try with_reducible rfl
            simp only [Act.put, List.setIfInBounds_toArray, List.set_cons_succ, List.set_cons_zero]
            refine Lim.stepR 4 (fun _ => trivial) rfl (by kernel_rfl) (fun _ _ _ _ h => h) hC rfl ?_; apply Exists.intro; refine ⟨?_, ?_⟩
            · rintro w r1; go_simp; try with_reducible rfl
            simp only [Act.put, List.setIfInBounds_toArray, List.set_cons_succ, List.set_cons_zero]
            refine Lim.stepR 5 (fun _ => trivial) rfl (by kernel_rfl) (fun _ _ _ _ h => h) hC rfl ?_; apply Exists.intro; refine ⟨?_, ?_⟩
            · rintro w r1; go_simp; try with_reducible rfl
            simp only [Act.put, List.setIfInBounds_toArray, List.set_cons_succ, List.set_cons_zero]
            refine Lim.stepR 6 (fun _ => trivial) rfl (by kernel_rfl) (fun _ _ _ _ h => h) hC rfl ?_; apply Exists.intro; refine ⟨?_, ?_⟩
            · rintro w r1; go_simp; try with_reducible rfl
            simp only [Act.put, List.setIfInBounds_toArray, List.set_cons_succ, List.set_cons_zero]
            refine Lim.stepR 7 (fun _ => trivial) rfl (by kernel_rfl) (fun _ _ _ _ h => h) hC rfl ?_; apply Exists.intro; refine ⟨?_, ?_⟩
            · rintro w r1; go_simp; try with_reducible rfl
            simp only [Act.put, List.setIfInBounds_toArray, List.set_cons_succ, List.set_cons_zero]
            refine Lim.stepR 9 (fun _ => trivial) rfl (by kernel_rfl) (fun _ _ _ _ h => h) hC rfl ?_; apply Exists.intro; refine ⟨?_, ?_⟩
            · rintro w r1; go_simp; try with_reducible rfl
            simp only [Act.put, List.setIfInBounds_toArray, List.set_cons_succ, List.set_cons_zero]
            refine Lim.stepR 10 (fun _ => trivial) rfl (by kernel_rfl) (fun _ _ _ _ h => h) hC rfl ?_; apply Exists.intro; refine ⟨?_, ?_⟩
            · rintro w r1; go_simp; try with_reducible rfl
            simp only [Act.put, List.setIfInBounds_toArray, List.set_cons_succ, List.set_cons_zero]
            refine Lim.stepR 13 (fun _ => trivial) rfl (by kernel_rfl) (fun _ _ _ _ h => h) hC rfl ?_; apply Exists.intro; refine ⟨?_, ?_⟩
            · rintro w r1; go_simp; try with_reducible rfl
            simp only [Act.put, List.setIfInBounds_toArray, List.set_cons_succ, List.set_cons_zero]
            refine Lim.stepR 14 (fun _ => trivial) rfl (by kernel_rfl) (fun _ _ _ _ h => h) hC rfl ?_; apply Exists.intro; refine ⟨?_, ?_⟩
            · rintro w r1; go_simp; try with_reducible rfl
            simp only [Act.put, List.setIfInBounds_toArray, List.set_cons_succ, List.set_cons_zero]
            refine Lim.stepE 8 (fun _ => trivial) rfl (by kernel_rfl) rfl (fun K hK => ?_)   -- E call
            go_simp
            refine ⟨rfl, (callsIn_wide.2 (next_any hn HD5.out HL.out.2.2)).mono ?_⟩
            rintro e w6 ⟨rfl, hb⟩
            have HD6 := Lib.hid (HD5.out.on hb)
            have HB6 := Lib.hid (HB5.out.trans (hb.mono HB5.out.size))
            have hC2 : (fun W => W.cell? ⟨wr.heap.size, 1, none⟩ = some (.int .i64 2)) w6 := hb.on hC
            refine hK _ _ hC2 ?_
            clear hb hC HD5 HB5
            obtain ⟨r, hr⟩ : ∃ r, r = nxtR R n S 1 := ⟨_, rfl⟩
            rw [← hr] at HE ⊢
            clear hr
            simp only [Act.put, List.setIfInBounds_toArray, List.set_cons_succ, List.set_cons_zero]
            refine Lim.stepR 11 (fun _ => trivial) rfl (by kernel_rfl) (fun _ _ _ _ h => h) hC2 rfl ?_; apply Exists.intro; refine ⟨?_, ?_⟩
            · rintro w r1; go_simp; try with_reducible rfl
            simp only [Act.put, List.setIfInBounds_toArray, List.set_cons_succ, List.set_cons_zero]
            refine Lim.stepE 12 (fun _ => trivial) rfl (by kernel_rfl) rfl (fun K hK => ?_)   -- E store
            have z0 := HD6.out.d.fo n hn
            have zf := HD6.out.d.fz (31 + n) (by omega)
            go_simp
            have hC3 : (fun W => W.cell? ⟨wr.heap.size, 1, none⟩ = some (.int .i64 2)) (w6.setCell ⟨b, 31 + n, none⟩ (.int .i64 2)) := (setCell_far _ _ (Ne.symm hne)).trans hC2
            refine hK _ _ hC3 ?_
            clear z0 zf hC2
            have HD7 := Lib.hid (HD6.out.set hn HL.out.1 HL.out.2.1 2 r)
            have z1 : (w6.setCell ⟨b, 31 + n, none⟩ (.int .i64 2)).cell? ⟨b, 45 + n, none⟩ = some (.int .i64 (fdg R n)) := (setCell_off _ _ (by omega)).trans (HD6.out.d.ra n hn)
            have zf1 : (w6.setCell ⟨b, 31 + n, none⟩ (.int .i64 2)).frozen? ⟨b, 45 + n, none⟩ = false := (World.frozen?_setCell ..).trans (HD6.out.d.fz (45 + n) (by omega))
            have HS7 : Hid (Sep (fun k => k = b) w (w6.setCell ⟨b, 31 + n, none⟩ (.int .i64 2))) := Lib.hid ((Sep.of_below HB6.out).trans (Sep.set _ _ _ _))
            clear HD6 HB6
            generalize w6.setCell ⟨b, 31 + n, none⟩ (.int .i64 2) = w7 at HD7 z1 zf1 HS7 hC3 ⊢
            simp only [Act.put, List.setIfInBounds_toArray, List.set_cons_succ, List.set_cons_zero]
            refine Lim.stepR 15 (fun _ => trivial) rfl (by kernel_rfl) (fun _ _ _ _ h => h) hC3 rfl ?_; apply Exists.intro; refine ⟨?_, ?_⟩
            · rintro w r1; go_simp; try with_reducible rfl
            simp only [Act.put, List.setIfInBounds_toArray, List.set_cons_succ, List.set_cons_zero]
            refine Lim.stepE 16 (fun _ => trivial) rfl (by kernel_rfl) rfl (fun K hK => ?_)   -- E store
            go_simp
            have HS8 := Lib.hid (HS7.out.trans (Sep.set w7 b (45 + n) (.int .i64 r)))
            have hC4 : (fun W => W.cell? ⟨wr.heap.size, 1, none⟩ = some (.int .i64 2)) (w7.setCell ⟨b, 45 + n, none⟩ (.int .i64 r)) := (setCell_far _ _ (Ne.symm hne)).trans hC3
            refine hK _ _ hC4 ?_
            clear z1 zf1 hC3
            generalize w7.setCell ⟨b, 45 + n, none⟩ (.int .i64 r) = w8 at HD7 HS8 hC4 ⊢
            simp only [Act.put, List.setIfInBounds_toArray, List.set_cons_succ, List.set_cons_zero]
            refine Lim.stepD (by kernel_rfl) ?_
            go_wp2
            refine bodyPost_ret (results_none rfl _ _ _) rfl ?_
            exact ⟨rfl, by rw [HE.out]; exact HD7.out, HS8.out⟩
  · have t0 : (v != 0) = true := by rw [bne_iff_ne]; exact h0
    have HV0 : Hid (fdg F n ≠ 0) := Lib.hid (by rw [← HV.out]; exact h0)
    clear h0
    go_enter Try.func73, Try.ntmps73
    go_wp2_with fail
    refine bodyPost_ret (results_none rfl _ _ _) rfl ?_
    have e : hearS S F R n = (F, R) := by unfold hearS; rw [if_pos HV0.out]
    refine ⟨rfl, ?_, Sep.refl _⟩
    rw [e]; exact HD.out
end Go.Proofs.Ytiacgaplhndlnaa
