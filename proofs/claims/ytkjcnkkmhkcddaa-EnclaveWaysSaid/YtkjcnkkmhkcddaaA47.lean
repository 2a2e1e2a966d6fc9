/-
  Parts of the proof, in the order in which they build: EwX.
-/
import Derived.Test.YtkjcnkkmhkcddaaA46
import Derived.Test.YtkjcnkkmhkcddaaA36
set_option linter.unusedVariables false
set_option linter.unusedSimpArgs false
namespace Go.Proofs.Ytkjcnkkmhkcddaa
open Go.RowKit Go.Shelf
open Lim

attribute [local go_sem] Oper.semAt_some

theorem errE_is (wd : Int) (os : List Int) : errE wd os = 0 ∨ errE wd os = 3 ∨ errE wd os = 4 := by
 unfold errE
 by_cases h1 : countB wd os.length = true
 ·rw [if_pos h1]
  by_cases h2 : ((List.range os.length).all fun k => inB (os.getD k 0) 0 9) = true
  ·rw [if_pos h2]; simp
  ·rw [if_neg h2]; simp
 ·rw [if_neg h1]; simp
theorem askE_is (i j : Int) (k : Nat) : askE i j k = 0 ∨ askE i j k = 2 := by unfold askE; split <;> simp
set_option maxRecDepth 20000 in
set_option maxHeartbeats 8000000 in
theorem rLeads_any {B : Nat} {wd : Int} {ov wv : Value} {os xs : List Int} (i j : Int) {w : World} (hl : os.length ≤ 100000) (hxl : xs.length ≤ 100000) (hB : B ≤ w.heap.size) (hv : RS B w ov os.length (ints os)) (hx : RS B w wv xs.length (ints xs)) :
  Calls Try.prog 38 #[.agg #[.int .i64 wd, ov], .int .i64 i, .int .i64 j, wv] w fun e w' => LeAns wd os i j xs w e w' := by
 have hb := (Below.refl w.heap.size w).alloc (Nat.le_refl _) (.cells #[.int .i64 wd, ov] 28)
 have HOU := Lib.hid (rOut_any (wd := wd) i j (w := w.alloc (.cells #[.int .i64 wd, ov] 28)) hl (Nat.le_trans hB hb.size) (hv.below (hb.mono hB)))
 have HRG2 : Hid (∀ W, Below w.heap.size w W → Calls Try.prog 29 #[.agg #[.int .i64 wd, ov]] W fun e w' => RRegAns wd os W e w') := Lib.hid fun W hW => rRegions_any hl (Nat.le_trans hB hW.size) (hv.below (hW.mono hB))
 have HXS := Lib.hid (And.intro hB hx)
 obtain ⟨oa, oc, rfl, -⟩ := hv
 obtain ⟨xa, xc, rfl, -⟩ := hx
 have f0 : (w.alloc (.cells #[.int .i64 wd, .slice oa os.length oc] 28)).cell? ⟨w.heap.size, 0, none⟩ = some (.int .i64 wd) := by simp [go_sem]
 have f1 : (w.alloc (.cells #[.int .i64 wd, .slice oa os.length oc] 28)).cell? ⟨w.heap.size, 1, none⟩ = some (.slice oa os.length oc) := by simp [go_sem]
 have HB := Lib.hid hb
 have HXL := Lib.hid hxl
 have HXC : Hid (0 < xs.length → ∃ sb so, xa = some ⟨sb, so, none⟩ ∧ ∀ W, Below w.heap.size w W → ∀ t, t < xs.length → W.cell? ⟨sb, so + t, none⟩ = some (.int .i64 (xs.getD t 0))) := Lib.hid (fun h => by
  obtain ⟨a, c, e, hc⟩ := HXS.out.2
  cases e
  obtain ⟨sb, so, rfl, hsb, hcell⟩ := hc (ints_ne h)
  refine ⟨sb, so, rfl, fun W hW t ht => ?_⟩
  have h1 := cell_below (hW.mono HXS.out.1) (hcell t _ (ints_at' xs t ht)) hsb
  rw [List.getD_eq_getElem?_getD]; exact h1)
 clear hb hB hl HXS
 obtain ⟨N, hN⟩ : ∃ N, N = xs.length := ⟨_, rfl⟩
 have HNX := Lib.hid hN
 rw [← hN] at HXC hxl ⊢
 clear hN
 go_enter Try.func38, Try.ntmps38
 go_wp2_with fail
 generalize w.alloc (.cells #[.int .i64 wd, .slice oa os.length oc] 28) = w1 at HB HOU f0 f1 ⊢
 refine HOU.out.mono ?_
 rintro e w3 ⟨hb, h⟩
 replace f0 := hb.on f0
 replace f1 := hb.on f1
 have HB3 := Lib.hid (HB.out.trans (hb.mono HB.out.size))
 obtain ⟨q, hq⟩ : ∃ q, q = w.heap.size := ⟨_, rfl⟩
 rw [← hq] at f0 f1 ⊢
 clear hb HB HOU w1 hq
 rcases h with ⟨he, rfl⟩ | ⟨he, r, k, hr, hk, h⟩
 ·obtain ⟨er, her⟩ : ∃ er, er = errE wd os := ⟨_, rfl⟩
  have hei := errE_is wd os
  have g1 : (er != 0) = true := by rw [her]; simpa using he
  have g2 : (er != 7) = true := by rw [her]; rcases hei with h | h | h <;> simp [h]
  have HE := Lib.hid he
  rw [← her]
  have HER := Lib.hid her
  clear her he hei
  go_wp2_with fail
  go_ret2
  exact ⟨HB3.out, .inl ⟨HE.out, by rw [← HER.out]; rfl⟩⟩
 ·rcases h with ⟨ha, rfl⟩ | h
  ·have HA := Lib.hid ha
   have HH := Lib.hid (And.intro he (And.intro hr hk))
   clear ha he hr hk
   go_wp2_with fail
   go_ret2
   refine ⟨HB3.out, .inr ⟨HH.out.1, r, k, HH.out.2.1, HH.out.2.2, .inl ⟨HA.out, ?_⟩⟩⟩
   rw [(askE_is i j k).resolve_left HA.out]; rfl
  ·have ha : askE i j k = 0 := by rcases h with h | h <;> exact h.1
   have hji := askE_zero ha
   obtain ⟨m, hm⟩ : ∃ m : Mp, m = ⟨wd.toNat, os⟩ := ⟨_, rfl⟩
   have HM : Hid (m.Ok ∧ m.n ≤ 100) := Lib.hid (by rw [hm]; exact ⟨(errE_ok he).1, (errE_ok he).1.n1⟩)
   obtain ⟨n, hn⟩ : ∃ n, n = os.length := ⟨_, rfl⟩
   have HOS := Lib.hid hn
   have HNN : Hid (m.n = n) := Lib.hid (by rw [hm, hn]; rfl)
   have hn100 : n ≤ 100 := by have := HM.out.2; have := HNN.out; omega
   have HRU : Hid (∀ r4, IsReg ⟨wd.toNat, os⟩ r4 → ∀ p, p < n → r p = r4 p) := Lib.hid fun r4 h4 p hp => hr.unique h4 p (by show p < os.length; omega)
   have hwd : wd = (m.wd : Int) := by rw [hm]; exact (errE_ok he).2
   obtain ⟨i', hi'⟩ : ∃ i' : Nat, i = i' := ⟨i.toNat, by omega⟩
   obtain ⟨j', hj'⟩ : ∃ j' : Nat, j = j' := ⟨j.toNat, by omega⟩
   have HE0 := Lib.hid he
   have HFZ : Hid (∀ (z : Bool) W, Below w.heap.size w W → (∀ x ∈ xs, 0 ≤ x ∧ x < n) → (z = true ↔ Leads m r i' j' (xs.map Int.toNat)) → LeAns wd os i j xs w (.returned (.tuple #[.bool z, .int .i64 0])) W) := Lib.hid (fun z W h1 h2 h3 => by
    rw [hm] at h3
    exact ⟨h1, .inr ⟨he, r, k, hr, hk, .inr (.inr ⟨ha, by rw [hn] at h2; exact h2, z, rfl, by rw [hi', hj']; simpa using h3⟩)⟩⟩)
   have HFA : Hid (∀ W, Below w.heap.size w W → (¬ ∀ x ∈ xs, 0 ≤ x ∧ x < n) → LeAns wd os i j xs w (.returned (.tuple #[.bool false, .int .i64 2])) W) := Lib.hid (fun W h1 h2 =>
    ⟨h1, .inr ⟨he, r, k, hr, hk, .inr (.inl ⟨ha, by rw [hn] at h2; exact h2, rfl⟩)⟩⟩)
   rw [← hn] at f1 ⊢
   have hwn : IntKind.i64.wrap ((n : Int) - 1) = (n : Int) - 1 := IntWalk.i64_in _ (by omega)
   rw [← hn] at HRG2
   obtain ⟨er, rfl, her⟩ : ∃ er : Int, e = .returned (.int .i64 er) ∧ (er = 0 ∨ er = 7) := by
    rcases h with ⟨-, -, rfl⟩ | ⟨-, -, rfl⟩
    ·exact ⟨0, rfl, .inl rfl⟩
    ·exact ⟨7, rfl, .inr rfl⟩
   clear h hm hn he hr hk ha hji
   subst hi' hj'
   subst hwd
   rcases her with rfl | rfl
   ·skip
    have HQB : Hid (q < w3.heap.size) := Lib.hid (World.block_lt_of_cell? _ _ f0)
    go_wp2_with fail
    go_loopw [11] (fun v wr => ∃ t : Nat, t ≤ N ∧ v = .int .i64 t ∧ Hid (Below w3.heap.size w3 wr ∧ ∀ s, s < t → 0 ≤ xs.getD s 0 ∧ xs.getD s 0 < n)) (fun v _ => N - (intOf v).toNat)
    case atStart => exact ⟨0, Nat.zero_le _, rfl, Lib.hid ⟨Below.refl _ _, fun s hs => by omega⟩⟩
    case round =>
     obtain ⟨t, ht, rfl, hJ⟩ := hrel
     replace HB3 := Lib.hid (HB3.out.trans (hJ.out.1.mono HB3.out.size))
     have f0 := hJ.out.1.on f0
     have f1 := hJ.out.1.on f1
     have HJB := Lib.hid hJ.out.1
     have hI := Lib.hid hJ.out.2
     clear hJ
     obtain ⟨i0, hi0⟩ : ∃ x, x = wr := ⟨_, rfl⟩
     subst hi0
     have ht64 : (t : Int) ≤ 100000 := by omega
     by_cases hlt : t < N
     ·have hlt64 : (t : Int) < N := by omega
      obtain ⟨sb, so, rfl, hcx⟩ := HXC.out (by omega)
      obtain ⟨y, hy⟩ : ∃ y, y = xs.getD t 0 := ⟨_, rfl⟩
      have yt := hcx i0 HB3.out t hlt
      rw [← hy] at yt
      have HY := Lib.hid hy
      have hC : (fun W => W.cell? ⟨q, 1, none⟩ = some (.slice oa n oc) ∧ W.cell? ⟨sb, so + t, none⟩ = some (.int .i64 y)) i0.drew := ⟨f1, yt⟩
      clear hy yt hcx
      go_upto_region 7 with (fail)
      refine Lim.regC' (fun W => W.cell? ⟨q, 1, none⟩ = some (.slice oa n oc) ∧ W.cell? ⟨sb, so + t, none⟩ = some (.int .i64 y)) [] #[false, false, false, false, false, false, false, false, false] (by kernel_rfl) rfl ?_
      refine Lim.stepR 0 (fun _ => trivial) rfl (by kernel_rfl) (fun _ _ _ _ h => h) hC rfl ?_; apply Exists.intro; refine ⟨?_, ?_⟩
      ·rintro w ⟨r1, r2⟩; go_simp; try with_reducible rfl
      simp only [Act.put, List.setIfInBounds_toArray, List.set_cons_succ, List.set_cons_zero]
      refine Lim.stepR 1 (fun _ => trivial) rfl (by kernel_rfl) (fun _ _ _ _ h => h) hC rfl ?_; apply Exists.intro; refine ⟨?_, ?_⟩
      ·rintro w ⟨r1, r2⟩; go_simp; try with_reducible rfl
      simp only [Act.put, List.setIfInBounds_toArray, List.set_cons_succ, List.set_cons_zero]
      refine Lim.stepR 2 (fun _ => trivial) rfl (by kernel_rfl) (fun _ _ _ _ h => h) hC rfl ?_; apply Exists.intro; refine ⟨?_, ?_⟩
      ·rintro w ⟨r1, r2⟩; go_simp; try with_reducible rfl
      simp only [Act.put, List.setIfInBounds_toArray, List.set_cons_succ, List.set_cons_zero]
      refine Lim.stepR 3 (fun _ => trivial) rfl (by kernel_rfl) (fun _ _ _ _ h => h) hC rfl ?_; apply Exists.intro; refine ⟨?_, ?_⟩
      ·rintro w ⟨r1, r2⟩; go_simp; try with_reducible rfl
      simp only [Act.put, List.setIfInBounds_toArray, List.set_cons_succ, List.set_cons_zero]
      refine Lim.stepR 4 (fun _ => trivial) rfl (by kernel_rfl) (fun _ _ _ _ h => h) hC rfl ?_; apply Exists.intro; refine ⟨?_, ?_⟩
      ·rintro w ⟨r1, r2⟩; go_simp; try with_reducible rfl
      simp only [Act.put, List.setIfInBounds_toArray, List.set_cons_succ, List.set_cons_zero]
      refine Lim.stepR 5 (fun _ => trivial) rfl (by kernel_rfl) (fun _ _ _ _ h => h) hC rfl ?_; apply Exists.intro; refine ⟨?_, ?_⟩
      ·rintro w ⟨r1, r2⟩; go_simp; try with_reducible rfl
      simp only [Act.put, List.setIfInBounds_toArray, List.set_cons_succ, List.set_cons_zero]
      refine Lim.stepR 6 (fun _ => trivial) rfl (by kernel_rfl) (fun _ _ _ _ h => h) hC rfl ?_; apply Exists.intro; refine ⟨?_, ?_⟩
      ·rintro w ⟨r1, r2⟩; go_simp; try with_reducible rfl
      simp only [Act.put, List.setIfInBounds_toArray, List.set_cons_succ, List.set_cons_zero]
      refine Lim.stepR 7 (fun _ => trivial) rfl (by kernel_rfl) (fun _ _ _ _ h => h) hC rfl ?_; apply Exists.intro; refine ⟨?_, ?_⟩
      ·rintro w ⟨r1, r2⟩; go_simp; try with_reducible rfl
      simp only [Act.put, List.setIfInBounds_toArray, List.set_cons_succ, List.set_cons_zero]
      refine Lim.stepE 8 (fun _ => trivial) rfl (by kernel_rfl) rfl (fun K hK => ?_)   -- E call
      go_simp
      refine ⟨rfl, (callsIn_wide.2 (outside_any _ _ _ _)).mono ?_⟩
      rintro e w9 ⟨rfl, rfl⟩
      refine hK _ _ hC ?_
      simp only [Act.put, List.setIfInBounds_toArray, List.set_cons_succ, List.set_cons_zero]
      refine Lim.stepD (by kernel_rfl) ?_
      clear hC
      cases hz : inB y 0 ((n : Int) - 1) with
      | false =>
       have HN : Hid (¬ ∀ x ∈ xs, 0 ≤ x ∧ x < n) := Lib.hid (fun h => by
        have h1 := h y (by rw [HY.out, List.getD_eq_getElem?_getD, List.getElem?_eq_getElem (by rw [← HNX.out]; exact hlt)]; exact List.getElem_mem _)
        rw [inB_true h1.1 (by omega)] at hz; cases hz)
       clear hz
       go_wp2_with fail
       go_ret2
       exact HFA.out _ HB3.out.drew HN.out
      | true =>
       have HZ := Lib.hid (inB_iff.1 hz)
       clear hz
       go_wp2_with fail
       go_roundw
       case rel =>
        refine ⟨t + 1, by omega, by go_num, Lib.hid ⟨HJB.out.drew, fun s hs => ?_⟩⟩
        by_cases e : s = t
        ·rw [e, ← HY.out]; have := HZ.out; omega
        ·exact hI.out s (by omega)
       case measure => simp [intOf]; omega
     ·have ht' : ¬ (t : Int) < N := by omega
      obtain rfl : N = t := by omega
      have HIN : Hid (∀ x ∈ xs, 0 ≤ x ∧ x < n) := Lib.hid (fun x hx => by
       obtain ⟨s, hs, rfl⟩ := List.mem_iff_getElem.1 hx
       have := hI.out s (by rw [HNX.out]; exact hs)
       rwa [List.getD_eq_getElem?_getD, List.getElem?_eq_getElem hs] at this)
      clear hI
      obtain ⟨L, hL⟩ : ∃ L, L = xs.map Int.toNat := ⟨_, rfl⟩
      have HLX : Hid (∀ s, s < N → ∃ x : Nat, L[s]? = some x ∧ xs.getD s 0 = x ∧ x < n) := Lib.hid (fun s hs => by
       have hs' : s < xs.length := by rw [← HNX.out]; exact hs
       have h := HIN.out _ (List.getElem_mem hs')
       refine ⟨xs[s].toNat, by rw [hL, List.getElem?_map, List.getElem?_eq_getElem hs']; rfl, ?_, by omega⟩
       rw [List.getD_eq_getElem?_getD, List.getElem?_eq_getElem hs']
       show xs[s] = _
       omega)
      have HLN : Hid (L.length = N ∧ ∀ p ∈ L, p < m.n) := Lib.hid ⟨by rw [hL, List.length_map, HNX.out], fun p hp => by
       rw [hL] at hp
       obtain ⟨x, hx, rfl⟩ := List.mem_map.1 hp
       have := HIN.out x hx
       have e : (m.n : Nat) = n := HNN.out
       omega⟩
      have HF2 : Hid (∀ (z : Bool) W, Below w.heap.size w W → (z = true ↔ Leads m r i' j' L) → LeAns m.wd os i' j' xs w (.returned (.tuple #[.bool z, .int .i64 0])) W) := Lib.hid (fun z W h1 h2 => HFZ.out z W h1 HIN.out (by rw [hL] at h2; exact h2))
      have HLI : Hid (Leads m r i' j' L ↔ goesB m L = true ∧ r (L.getD 0 0) = i' ∧ rimB m (L.getD (L.length - 1) 0) = true ∧ ∀ p ∈ L, r p ≠ j') := Lib.hid (leads_iff HLN.out.2)
      clear hL
      have HRG := HRG2.out i0 HB3.out
      go_wp2_with fail
      refine HRG.mono ?_
      rintro e w4 ⟨hb4, h4⟩
      clear HRG
      replace f0 := hb4.on f0
      replace f1 := hb4.on f1
      have HP := Lib.hid (HB3.out.trans (hb4.mono HB3.out.size))
      obtain ⟨lv, rfl, hlv⟩ : ∃ lv, e = .returned (.tuple #[lv, .int .i64 0]) ∧ RS w4.heap.size w4 lv n (ints (regL r n)) := by
       rcases h4 with ⟨h5, -⟩ | ⟨-, v4, r4, k4, rfl, hr4, hk4, hv4⟩
       ·exact absurd HE0.out h5
       ·refine ⟨v4, rfl, ?_⟩
        have e1 : regL r n = regL r4 n := List.map_congr_left (fun p hp => by
         have hp := List.mem_range.1 hp
         have := HRU.out r4 hr4 p hp
         rw [this])
        rw [e1]
        have e2 : n = os.length := HOS.out
        rw [e2]; exact hv4
      obtain ⟨gl, ol, cl, rfl, hgl, hcl⟩ := reg_cell hlv (by have := HM.out.1.n0; have e : m.n = n := HNN.out; omega)
      have HLC : Hid (∀ W, Below w4.heap.size w4 W → ∀ p, p < n → W.cell? ⟨gl, ol + p, none⟩ = some (.int .i64 (r p : Nat))) := Lib.hid fun W hW p hp => cell_below hW (hcl p hp) hgl
      clear hb4 h4 hlv hgl hcl
      by_cases hN0 : N = 0
      ·subst hN0
       have HL0 : Hid (¬ Leads m r i' j' L) := Lib.hid (fun h => by
        have h1 := (HLI.out.1 h).1
        have h2 := HLN.out.1
        unfold goesB at h1
        rw [h2] at h1; simp at h1)
       obtain ⟨wr0, rfl⟩ : ∃ x, x = w4 := ⟨_, rfl⟩
       go_upto_region 10 with (fail)
       have hC : (fun W => W.cell? ⟨q, 1, none⟩ = some (.slice oa n oc)) wr0.drew := f1
       refine Lim.regC' (fun W => W.cell? ⟨q, 1, none⟩ = some (.slice oa n oc)) [] #[false, false, false, false, false, false, false, false, false, false, false, false, false, false, false, false, false, false, false, false, false, false, false, false] (by kernel_rfl) rfl ?_
       refine Lim.stepR 0 (fun _ => trivial) rfl (by kernel_rfl) (fun _ _ _ _ h => h) hC rfl ?_; apply Exists.intro; refine ⟨?_, ?_⟩
       ·rintro w r1; go_simp; try with_reducible rfl
       simp only [Act.put, List.setIfInBounds_toArray, List.set_cons_succ, List.set_cons_zero]
       refine Lim.stepR 1 (fun _ => trivial) rfl (by kernel_rfl) (fun _ _ _ _ h => h) hC rfl ?_; apply Exists.intro; refine ⟨?_, ?_⟩
       ·rintro w r1; go_simp; try with_reducible rfl
       simp only [Act.put, List.setIfInBounds_toArray, List.set_cons_succ, List.set_cons_zero]
       refine Lim.stepR 2 (fun _ => trivial) rfl (by kernel_rfl) (fun _ _ _ _ h => h) hC rfl ?_; apply Exists.intro; refine ⟨?_, ?_⟩
       ·rintro w r1; go_simp; try with_reducible rfl
       simp only [Act.put, List.setIfInBounds_toArray, List.set_cons_succ, List.set_cons_zero]
       refine Lim.stepR 3 (fun _ => trivial) rfl (by kernel_rfl) (fun _ _ _ _ h => h) hC rfl ?_; apply Exists.intro; refine ⟨?_, ?_⟩
       ·rintro w r1; go_simp; try with_reducible rfl
       simp only [Act.put, List.setIfInBounds_toArray, List.set_cons_succ, List.set_cons_zero]
       refine Lim.stepS 4 (fun _ => trivial) rfl (by kernel_rfl) (fun _ _ _ _ h => h) hC rfl ?_
       simp only [Act.put, List.setIfInBounds_toArray, List.set_cons_succ, List.set_cons_zero]
       refine Lim.stepS 5 (fun _ => trivial) rfl (by kernel_rfl) (fun _ _ _ _ h => h) hC rfl ?_
       simp only [Act.put, List.setIfInBounds_toArray, List.set_cons_succ, List.set_cons_zero]
       refine Lim.stepS 6 (fun _ => trivial) rfl (by kernel_rfl) (fun _ _ _ _ h => h) hC rfl ?_
       simp only [Act.put, List.setIfInBounds_toArray, List.set_cons_succ, List.set_cons_zero]
       refine Lim.stepS 7 (fun _ => trivial) rfl (by kernel_rfl) (fun _ _ _ _ h => h) hC rfl ?_
       simp only [Act.put, List.setIfInBounds_toArray, List.set_cons_succ, List.set_cons_zero]
       refine Lim.stepS 8 (fun _ => trivial) rfl (by kernel_rfl) (fun _ _ _ _ h => h) hC rfl ?_
       simp only [Act.put, List.setIfInBounds_toArray, List.set_cons_succ, List.set_cons_zero]
       refine Lim.stepS 9 (fun _ => trivial) rfl (by kernel_rfl) (fun _ _ _ _ h => h) hC rfl ?_
       simp only [Act.put, List.setIfInBounds_toArray, List.set_cons_succ, List.set_cons_zero]
       refine Lim.stepS 10 (fun _ => trivial) rfl (by kernel_rfl) (fun _ _ _ _ h => h) hC rfl ?_
       simp only [Act.put, List.setIfInBounds_toArray, List.set_cons_succ, List.set_cons_zero]
       refine Lim.stepS 11 (fun _ => trivial) rfl (by kernel_rfl) (fun _ _ _ _ h => h) hC rfl ?_
       simp only [Act.put, List.setIfInBounds_toArray, List.set_cons_succ, List.set_cons_zero]
       refine Lim.stepR 12 (fun _ => trivial) rfl (by kernel_rfl) (fun _ _ _ _ h => h) hC rfl ?_; apply Exists.intro; refine ⟨?_, ?_⟩
       ·rintro w r1; go_simp; try with_reducible rfl
       simp only [Act.put, List.setIfInBounds_toArray, List.set_cons_succ, List.set_cons_zero]
       refine Lim.stepR 13 (fun _ => trivial) rfl (by kernel_rfl) (fun _ _ _ _ h => h) hC rfl ?_; apply Exists.intro; refine ⟨?_, ?_⟩
       ·rintro w r1; go_simp; try with_reducible rfl
       simp only [Act.put, List.setIfInBounds_toArray, List.set_cons_succ, List.set_cons_zero]
       refine Lim.stepS 14 (fun _ => trivial) rfl (by kernel_rfl) (fun _ _ _ _ h => h) hC rfl ?_
       simp only [Act.put, List.setIfInBounds_toArray, List.set_cons_succ, List.set_cons_zero]
       refine Lim.stepS 15 (fun _ => trivial) rfl (by kernel_rfl) (fun _ _ _ _ h => h) hC rfl ?_
       simp only [Act.put, List.setIfInBounds_toArray, List.set_cons_succ, List.set_cons_zero]
       refine Lim.stepS 16 (fun _ => trivial) rfl (by kernel_rfl) (fun _ _ _ _ h => h) hC rfl ?_
       simp only [Act.put, List.setIfInBounds_toArray, List.set_cons_succ, List.set_cons_zero]
       refine Lim.stepS 17 (fun _ => trivial) rfl (by kernel_rfl) (fun _ _ _ _ h => h) hC rfl ?_
       simp only [Act.put, List.setIfInBounds_toArray, List.set_cons_succ, List.set_cons_zero]
       refine Lim.stepS 18 (fun _ => trivial) rfl (by kernel_rfl) (fun _ _ _ _ h => h) hC rfl ?_
       simp only [Act.put, List.setIfInBounds_toArray, List.set_cons_succ, List.set_cons_zero]
       refine Lim.stepS 19 (fun _ => trivial) rfl (by kernel_rfl) (fun _ _ _ _ h => h) hC rfl ?_
       simp only [Act.put, List.setIfInBounds_toArray, List.set_cons_succ, List.set_cons_zero]
       refine Lim.stepS 20 (fun _ => trivial) rfl (by kernel_rfl) (fun _ _ _ _ h => h) hC rfl ?_
       simp only [Act.put, List.setIfInBounds_toArray, List.set_cons_succ, List.set_cons_zero]
       refine Lim.stepS 21 (fun _ => trivial) rfl (by kernel_rfl) (fun _ _ _ _ h => h) hC rfl ?_
       simp only [Act.put, List.setIfInBounds_toArray, List.set_cons_succ, List.set_cons_zero]
       refine Lim.stepS 22 (fun _ => trivial) rfl (by kernel_rfl) (fun _ _ _ _ h => h) hC rfl ?_
       simp only [Act.put, List.setIfInBounds_toArray, List.set_cons_succ, List.set_cons_zero]
       refine Lim.stepR 23 (fun _ => trivial) rfl (by kernel_rfl) (fun _ _ _ _ h => h) hC rfl ?_; apply Exists.intro; refine ⟨?_, ?_⟩
       ·rintro w r1; go_simp; try with_reducible rfl
       simp only [Act.put, List.setIfInBounds_toArray, List.set_cons_succ, List.set_cons_zero]
       refine Lim.stepD (by kernel_rfl) ?_
       clear hC
       go_wp2_with fail
       go_ret2
       exact HF2.out false _ HP.out.drew ⟨fun h => (by cases h), fun h => absurd h HL0.out⟩
      ·have hN1 : 0 < N := by omega
       have d0 : ((N : Int) == 0) = false := by rw [beq_eq_false_iff_ne]; omega
       have d0' : (N == 0) = false := by rw [beq_eq_false_iff_ne]; omega
       obtain ⟨sb, so, rfl, hcx⟩ := HXC.out hN1
       have HCX := Lib.hid hcx
       clear hcx
       obtain ⟨l1, hl1⟩ : ∃ l1, l1 = N - 1 := ⟨_, rfl⟩
       have hl1t : l1 < N := by omega
       have hl64 : (l1 : Int) < N := by omega
       have hw2 : IntKind.i64.wrap ((N : Int) - 1) = (l1 : Int) := by rw [IntWalk.i64_in _ (by omega)]; omega
       obtain ⟨x0, hx0, hx0', hx0n⟩ := HLX.out 0 hN1
       obtain ⟨xl, hxl, hxl', hxln⟩ := HLX.out l1 hl1t
       have c0 := HCX.out w4 HP.out 0 hN1
       have cl1 := HCX.out w4 HP.out l1 hl1t
       rw [hx0', Nat.add_zero] at c0
       rw [hxl'] at cl1
       obtain ⟨u0, hu0⟩ : ∃ u, u = r x0 := ⟨_, rfl⟩
       have cu := HLC.out w4 (Below.refl _ _) x0 hx0n
       rw [← hu0] at cu
       obtain ⟨z1, hz1⟩ : ∃ z, z = rimB m xl := ⟨_, rfl⟩
       have HED : Hid (∀ W, Calls Try.prog 73 #[.agg #[.int .i64 m.wd, .slice oa n oc], .int .i64 xl] W fun e w' => e = .returned (.bool z1) ∧ Below W.heap.size W w') := Lib.hid fun W => by
        rw [hz1]
        have e : m.n = n := HNN.out
        rw [← e]
        exact redge_any HM.out.1 (by rw [e]; exact hxln)
       have HG : Hid (L.getD 0 0 = x0 ∧ L.getD (L.length - 1) 0 = xl) := Lib.hid ⟨by rw [List.getD_eq_getElem?_getD, hx0]; rfl, by rw [HLN.out.1, ← hl1, List.getD_eq_getElem?_getD, hxl]; rfl⟩
       have HU := Lib.hid (And.intro hu0 hz1)
       obtain ⟨wr0, rfl⟩ : ∃ x, x = w4 := ⟨_, rfl⟩
       have hC : (fun W => W.cell? ⟨q, 0, none⟩ = some (.int .i64 m.wd) ∧ W.cell? ⟨q, 1, none⟩ = some (.slice oa n oc) ∧ W.cell? ⟨sb, so, none⟩ = some (.int .i64 x0) ∧ W.cell? ⟨sb, so + l1, none⟩ = some (.int .i64 xl) ∧ W.cell? ⟨gl, ol + x0, none⟩ = some (.int .i64 u0)) wr0.drew := ⟨f0, f1, c0, cl1, cu⟩
       clear hx0 hx0' hxl hxl' c0 cl1 cu hu0 hz1 hl1
       go_upto_region 10 with (fail)
       by_cases hui : u0 = i'
       ·have d1 : ((u0 : Int) != i') = false := by simp [hui]
        have d1' : (u0 != i') = false := by simp [hui]
        have HUI := Lib.hid hui
        clear hui
        refine Lim.regC' (fun W => W.cell? ⟨q, 0, none⟩ = some (.int .i64 m.wd) ∧ W.cell? ⟨q, 1, none⟩ = some (.slice oa n oc) ∧ W.cell? ⟨sb, so, none⟩ = some (.int .i64 x0) ∧ W.cell? ⟨sb, so + l1, none⟩ = some (.int .i64 xl) ∧ W.cell? ⟨gl, ol + x0, none⟩ = some (.int .i64 u0)) [] #[false, false, false, false, false, false, false, false, false, false, false, false, false, false, false, false, false, false, false, false, false, false, false, false] (by kernel_rfl) rfl ?_
        refine Lim.stepR 0 (fun _ => trivial) rfl (by kernel_rfl) (fun _ _ _ _ h => h) hC rfl ?_; apply Exists.intro; refine ⟨?_, ?_⟩
        ·rintro w ⟨r1, r2, r3, r4, r5⟩; go_simp; try with_reducible rfl
        simp only [Act.put, List.setIfInBounds_toArray, List.set_cons_succ, List.set_cons_zero]
        refine Lim.stepR 1 (fun _ => trivial) rfl (by kernel_rfl) (fun _ _ _ _ h => h) hC rfl ?_; apply Exists.intro; refine ⟨?_, ?_⟩
        ·rintro w ⟨r1, r2, r3, r4, r5⟩; go_simp; try with_reducible rfl
        simp only [Act.put, List.setIfInBounds_toArray, List.set_cons_succ, List.set_cons_zero]
        refine Lim.stepR 2 (fun _ => trivial) rfl (by kernel_rfl) (fun _ _ _ _ h => h) hC rfl ?_; apply Exists.intro; refine ⟨?_, ?_⟩
        ·rintro w ⟨r1, r2, r3, r4, r5⟩; go_simp; try with_reducible rfl
        simp only [Act.put, List.setIfInBounds_toArray, List.set_cons_succ, List.set_cons_zero]
        refine Lim.stepR 3 (fun _ => trivial) rfl (by kernel_rfl) (fun _ _ _ _ h => h) hC rfl ?_; apply Exists.intro; refine ⟨?_, ?_⟩
        ·rintro w ⟨r1, r2, r3, r4, r5⟩; go_simp; try with_reducible rfl
        simp only [Act.put, List.setIfInBounds_toArray, List.set_cons_succ, List.set_cons_zero]
        refine Lim.stepR 4 (fun _ => trivial) rfl (by kernel_rfl) (fun _ _ _ _ h => h) hC rfl ?_; apply Exists.intro; refine ⟨?_, ?_⟩
        ·rintro w ⟨r1, r2, r3, r4, r5⟩; go_simp; try with_reducible rfl
        simp only [Act.put, List.setIfInBounds_toArray, List.set_cons_succ, List.set_cons_zero]
        refine Lim.stepR 5 (fun _ => trivial) rfl (by kernel_rfl) (fun _ _ _ _ h => h) hC rfl ?_; apply Exists.intro; refine ⟨?_, ?_⟩
        ·rintro w ⟨r1, r2, r3, r4, r5⟩; go_simp; try with_reducible rfl
        simp only [Act.put, List.setIfInBounds_toArray, List.set_cons_succ, List.set_cons_zero]
        refine Lim.stepR 6 (fun _ => trivial) rfl (by kernel_rfl) (fun _ _ _ _ h => h) hC rfl ?_; apply Exists.intro; refine ⟨?_, ?_⟩
        ·rintro w ⟨r1, r2, r3, r4, r5⟩; go_simp; try with_reducible rfl
        simp only [Act.put, List.setIfInBounds_toArray, List.set_cons_succ, List.set_cons_zero]
        refine Lim.stepR 7 (fun _ => trivial) rfl (by kernel_rfl) (fun _ _ _ _ h => h) hC rfl ?_; apply Exists.intro; refine ⟨?_, ?_⟩
        ·rintro w ⟨r1, r2, r3, r4, r5⟩; go_simp; try with_reducible rfl
        simp only [Act.put, List.setIfInBounds_toArray, List.set_cons_succ, List.set_cons_zero]
        refine Lim.stepR 8 (fun _ => trivial) rfl (by kernel_rfl) (fun _ _ _ _ h => h) hC rfl ?_; apply Exists.intro; refine ⟨?_, ?_⟩
        ·rintro w ⟨r1, r2, r3, r4, r5⟩; go_simp; try with_reducible rfl
        simp only [Act.put, List.setIfInBounds_toArray, List.set_cons_succ, List.set_cons_zero]
        refine Lim.stepR 9 (fun _ => trivial) rfl (by kernel_rfl) (fun _ _ _ _ h => h) hC rfl ?_; apply Exists.intro; refine ⟨?_, ?_⟩
        ·rintro w ⟨r1, r2, r3, r4, r5⟩; go_simp; try with_reducible rfl
        simp only [Act.put, List.setIfInBounds_toArray, List.set_cons_succ, List.set_cons_zero]
        refine Lim.stepR 10 (fun _ => trivial) rfl (by kernel_rfl) (fun _ _ _ _ h => h) hC rfl ?_; apply Exists.intro; refine ⟨?_, ?_⟩
        ·rintro w ⟨r1, r2, r3, r4, r5⟩; go_simp; try with_reducible rfl
        simp only [Act.put, List.setIfInBounds_toArray, List.set_cons_succ, List.set_cons_zero]
        refine Lim.stepR 11 (fun _ => trivial) rfl (by kernel_rfl) (fun _ _ _ _ h => h) hC rfl ?_; apply Exists.intro; refine ⟨?_, ?_⟩
        ·rintro w ⟨r1, r2, r3, r4, r5⟩; go_simp; try with_reducible rfl
        simp only [Act.put, List.setIfInBounds_toArray, List.set_cons_succ, List.set_cons_zero]
        refine Lim.stepR 12 (fun _ => trivial) rfl (by kernel_rfl) (fun _ _ _ _ h => h) hC rfl ?_; apply Exists.intro; refine ⟨?_, ?_⟩
        ·rintro w ⟨r1, r2, r3, r4, r5⟩; go_simp; try with_reducible rfl
        simp only [Act.put, List.setIfInBounds_toArray, List.set_cons_succ, List.set_cons_zero]
        refine Lim.stepR 13 (fun _ => trivial) rfl (by kernel_rfl) (fun _ _ _ _ h => h) hC rfl ?_; apply Exists.intro; refine ⟨?_, ?_⟩
        ·rintro w ⟨r1, r2, r3, r4, r5⟩; go_simp; try with_reducible rfl
        simp only [Act.put, List.setIfInBounds_toArray, List.set_cons_succ, List.set_cons_zero]
        refine Lim.stepR 14 (fun _ => trivial) rfl (by kernel_rfl) (fun _ _ _ _ h => h) hC rfl ?_; apply Exists.intro; refine ⟨?_, ?_⟩
        ·rintro w ⟨r1, r2, r3, r4, r5⟩; go_simp; try with_reducible rfl
        simp only [Act.put, List.setIfInBounds_toArray, List.set_cons_succ, List.set_cons_zero]
        refine Lim.stepR 15 (fun _ => trivial) rfl (by kernel_rfl) (fun _ _ _ _ h => h) hC rfl ?_; apply Exists.intro; refine ⟨?_, ?_⟩
        ·rintro w ⟨r1, r2, r3, r4, r5⟩; go_simp; try with_reducible rfl
        simp only [Act.put, List.setIfInBounds_toArray, List.set_cons_succ, List.set_cons_zero]
        refine Lim.stepR 16 (fun _ => trivial) rfl (by kernel_rfl) (fun _ _ _ _ h => h) hC rfl ?_; apply Exists.intro; refine ⟨?_, ?_⟩
        ·rintro w ⟨r1, r2, r3, r4, r5⟩; go_simp; try with_reducible rfl
        simp only [Act.put, List.setIfInBounds_toArray, List.set_cons_succ, List.set_cons_zero]
        refine Lim.stepR 17 (fun _ => trivial) rfl (by kernel_rfl) (fun _ _ _ _ h => h) hC rfl ?_; apply Exists.intro; refine ⟨?_, ?_⟩
        ·rintro w ⟨r1, r2, r3, r4, r5⟩; go_simp; try with_reducible rfl
        simp only [Act.put, List.setIfInBounds_toArray, List.set_cons_succ, List.set_cons_zero]
        refine Lim.stepR 18 (fun _ => trivial) rfl (by kernel_rfl) (fun _ _ _ _ h => h) hC rfl ?_; apply Exists.intro; refine ⟨?_, ?_⟩
        ·rintro w ⟨r1, r2, r3, r4, r5⟩; go_simp; try with_reducible rfl
        simp only [Act.put, List.setIfInBounds_toArray, List.set_cons_succ, List.set_cons_zero]
        refine Lim.stepR 19 (fun _ => trivial) rfl (by kernel_rfl) (fun _ _ _ _ h => h) hC rfl ?_; apply Exists.intro; refine ⟨?_, ?_⟩
        ·rintro w ⟨r1, r2, r3, r4, r5⟩; go_simp; try with_reducible rfl
        simp only [Act.put, List.setIfInBounds_toArray, List.set_cons_succ, List.set_cons_zero]
        refine Lim.stepR 20 (fun _ => trivial) rfl (by kernel_rfl) (fun _ _ _ _ h => h) hC rfl ?_; apply Exists.intro; refine ⟨?_, ?_⟩
        ·rintro w ⟨r1, r2, r3, r4, r5⟩; go_simp; try with_reducible rfl
        simp only [Act.put, List.setIfInBounds_toArray, List.set_cons_succ, List.set_cons_zero]
        refine Lim.stepE 21 (fun _ => trivial) rfl (by kernel_rfl) rfl (fun K hK => ?_)   -- E call
        go_simp
        refine ⟨rfl, (callsIn_wide.2 (HED.out _)).mono ?_⟩
        rintro e w9 ⟨rfl, hb9⟩
        have HP9 := Lib.hid (HP.out.trans (((Below.refl _ wr0).drew.trans hb9).mono HP.out.size))
        have hC9 : (fun W => W.cell? ⟨q, 0, none⟩ = some (.int .i64 m.wd) ∧ W.cell? ⟨q, 1, none⟩ = some (.slice oa n oc) ∧ W.cell? ⟨sb, so, none⟩ = some (.int .i64 x0) ∧ W.cell? ⟨sb, so + l1, none⟩ = some (.int .i64 xl) ∧ W.cell? ⟨gl, ol + x0, none⟩ = some (.int .i64 u0)) w9 := ⟨hb9.on hC.1, hb9.on hC.2.1, hb9.on hC.2.2.1, hb9.on hC.2.2.2.1, hb9.on hC.2.2.2.2⟩
        refine hK _ _ hC9 ?_
        have hb9c := hb9
        clear hb9
        simp only [Act.put, List.setIfInBounds_toArray, List.set_cons_succ, List.set_cons_zero]
        have HB49 := Lib.hid ((Below.refl wr0.heap.size wr0).drew.trans hb9c)
        refine Lim.stepR 22 (fun _ => trivial) rfl (by kernel_rfl) (fun _ _ _ _ h => h) hC9 rfl ?_; apply Exists.intro; refine ⟨?_, ?_⟩
        ·rintro w ⟨r1, r2, r3, r4, r5⟩; go_simp; try with_reducible rfl
        simp only [Act.put, List.setIfInBounds_toArray, List.set_cons_succ, List.set_cons_zero]
        refine Lim.stepR 23 (fun _ => trivial) rfl (by kernel_rfl) (fun _ _ _ _ h => h) hC9 rfl ?_; apply Exists.intro; refine ⟨?_, ?_⟩
        ·rintro w ⟨r1, r2, r3, r4, r5⟩; go_simp; try with_reducible rfl
        simp only [Act.put, List.setIfInBounds_toArray, List.set_cons_succ, List.set_cons_zero]
        refine Lim.stepD (by kernel_rfl) ?_
        obtain ⟨f0, f1, -⟩ := hC9
        clear hC
        cases z1 with
        | false =>
         go_wp2_with fail
         go_ret2
         exact HF2.out false _ HP9.out ⟨fun h => (by cases h), fun h => by
          have := (HLI.out.1 h).2.2.1
          rw [HG.out.2, ← HU.out.2] at this; cases this⟩
        | true =>
         clear d1 d1' hw2 hl64 hl1t hx0n hxln
         go_wp2_with fail
         go_loopw [14] (fun v wr => ∃ s : Nat, s ≤ N ∧ v = .int .i64 s ∧ Hid (Below w9.heap.size w9 wr ∧ (∀ a, a < s → r (L.getD a 0) ≠ j') ∧ ∀ a, a + 1 < s → nb m (L.getD a 0) (L.getD (a + 1) 0))) (fun v _ => N - (intOf v).toNat)
         case atStart => exact ⟨0, Nat.zero_le _, rfl, Lib.hid ⟨Below.refl _ _, fun a ha => by omega, fun a ha => by omega⟩⟩
         case round =>
          obtain ⟨t, hs, rfl, hI⟩ := hrel
          obtain ⟨w9', hw9'⟩ : ∃ x, x = w9 := ⟨_, rfl⟩
          have HW9 := Lib.hid hw9'
          clear hw9'
          have hs64 : (t : Int) ≤ 100000 := by omega
          by_cases hlt : t < N
          ·have hlt64 : (t : Int) < N := by omega
           obtain ⟨xt, hxt, hxt', hxtn⟩ := HLX.out t hlt
           have HB4 := Lib.hid (HP9.out.trans (hI.out.1.mono HP9.out.size))
           have f0 := hI.out.1.on f0
           have f1 := hI.out.1.on f1
           have ct := HCX.out wr HB4.out t hlt
           rw [hxt'] at ct
           obtain ⟨ut, hut⟩ : ∃ u, u = r xt := ⟨_, rfl⟩
           have cu := HLC.out wr (HB49.out.trans (hI.out.1.mono HB49.out.size)) xt hxtn
           rw [← hut] at cu
           have HT : Hid (L.getD t 0 = xt ∧ ut = r xt ∧ xt ∈ L) := Lib.hid ⟨by rw [List.getD_eq_getElem?_getD, hxt]; rfl, hut, List.mem_of_getElem? hxt⟩
           clear hxt hxt' hut
           obtain ⟨wr0, hwr0⟩ : ∃ x, x = wr := ⟨_, rfl⟩
           subst hwr0
           by_cases huj : ut = j'
           ·have d1 : ((ut : Int) == j') = true := by simp [huj]
            have d1' : (ut == j') = true := by simp [huj]
            have HUJ := Lib.hid huj
            clear huj
            go_upto_region 15 with (fail)
            have hC : (fun W => W.cell? ⟨q, 0, none⟩ = some (.int .i64 m.wd) ∧ W.cell? ⟨q, 1, none⟩ = some (.slice oa n oc) ∧ W.cell? ⟨sb, so + t, none⟩ = some (.int .i64 xt) ∧ W.cell? ⟨gl, ol + xt, none⟩ = some (.int .i64 ut)) wr0.drew := ⟨f0, f1, ct, cu⟩
            refine Lim.regC' (fun W => W.cell? ⟨q, 0, none⟩ = some (.int .i64 m.wd) ∧ W.cell? ⟨q, 1, none⟩ = some (.slice oa n oc) ∧ W.cell? ⟨sb, so + t, none⟩ = some (.int .i64 xt) ∧ W.cell? ⟨gl, ol + xt, none⟩ = some (.int .i64 ut)) [] #[false, false, false, false, false, false, false, false, false, false, false, false, false, false, false, false, false, false, false, false, false, false, false, false, false, false, false] (by kernel_rfl) rfl ?_
            refine Lim.stepR 0 (fun _ => trivial) rfl (by kernel_rfl) (fun _ _ _ _ h => h) hC rfl ?_; apply Exists.intro; refine ⟨?_, ?_⟩
            ·rintro w ⟨r1, r2, r3, r4⟩; go_simp; try with_reducible rfl
            simp only [Act.put, List.setIfInBounds_toArray, List.set_cons_succ, List.set_cons_zero]
            refine Lim.stepR 1 (fun _ => trivial) rfl (by kernel_rfl) (fun _ _ _ _ h => h) hC rfl ?_; apply Exists.intro; refine ⟨?_, ?_⟩
            ·rintro w ⟨r1, r2, r3, r4⟩; go_simp; try with_reducible rfl
            simp only [Act.put, List.setIfInBounds_toArray, List.set_cons_succ, List.set_cons_zero]
            refine Lim.stepR 2 (fun _ => trivial) rfl (by kernel_rfl) (fun _ _ _ _ h => h) hC rfl ?_; apply Exists.intro; refine ⟨?_, ?_⟩
            ·rintro w ⟨r1, r2, r3, r4⟩; go_simp; try with_reducible rfl
            simp only [Act.put, List.setIfInBounds_toArray, List.set_cons_succ, List.set_cons_zero]
            refine Lim.stepR 3 (fun _ => trivial) rfl (by kernel_rfl) (fun _ _ _ _ h => h) hC rfl ?_; apply Exists.intro; refine ⟨?_, ?_⟩
            ·rintro w ⟨r1, r2, r3, r4⟩; go_simp; try with_reducible rfl
            simp only [Act.put, List.setIfInBounds_toArray, List.set_cons_succ, List.set_cons_zero]
            refine Lim.stepR 4 (fun _ => trivial) rfl (by kernel_rfl) (fun _ _ _ _ h => h) hC rfl ?_; apply Exists.intro; refine ⟨?_, ?_⟩
            ·rintro w ⟨r1, r2, r3, r4⟩; go_simp; try with_reducible rfl
            simp only [Act.put, List.setIfInBounds_toArray, List.set_cons_succ, List.set_cons_zero]
            refine Lim.stepR 5 (fun _ => trivial) rfl (by kernel_rfl) (fun _ _ _ _ h => h) hC rfl ?_; apply Exists.intro; refine ⟨?_, ?_⟩
            ·rintro w ⟨r1, r2, r3, r4⟩; go_simp; try with_reducible rfl
            simp only [Act.put, List.setIfInBounds_toArray, List.set_cons_succ, List.set_cons_zero]
            refine Lim.stepR 6 (fun _ => trivial) rfl (by kernel_rfl) (fun _ _ _ _ h => h) hC rfl ?_; apply Exists.intro; refine ⟨?_, ?_⟩
            ·rintro w ⟨r1, r2, r3, r4⟩; go_simp; try with_reducible rfl
            simp only [Act.put, List.setIfInBounds_toArray, List.set_cons_succ, List.set_cons_zero]
            refine Lim.stepR 7 (fun _ => trivial) rfl (by kernel_rfl) (fun _ _ _ _ h => h) hC rfl ?_; apply Exists.intro; refine ⟨?_, ?_⟩
            ·rintro w ⟨r1, r2, r3, r4⟩; go_simp; try with_reducible rfl
            simp only [Act.put, List.setIfInBounds_toArray, List.set_cons_succ, List.set_cons_zero]
            refine Lim.stepR 8 (fun _ => trivial) rfl (by kernel_rfl) (fun _ _ _ _ h => h) hC rfl ?_; apply Exists.intro; refine ⟨?_, ?_⟩
            ·rintro w ⟨r1, r2, r3, r4⟩; go_simp; try with_reducible rfl
            simp only [Act.put, List.setIfInBounds_toArray, List.set_cons_succ, List.set_cons_zero]
            refine Lim.stepR 9 (fun _ => trivial) rfl (by kernel_rfl) (fun _ _ _ _ h => h) hC rfl ?_; apply Exists.intro; refine ⟨?_, ?_⟩
            ·rintro w ⟨r1, r2, r3, r4⟩; go_simp; try with_reducible rfl
            simp only [Act.put, List.setIfInBounds_toArray, List.set_cons_succ, List.set_cons_zero]
            refine Lim.stepS 10 (fun _ => trivial) rfl (by kernel_rfl) (fun _ _ _ _ h => h) hC rfl ?_
            simp only [Act.put, List.setIfInBounds_toArray, List.set_cons_succ, List.set_cons_zero]
            refine Lim.stepS 11 (fun _ => trivial) rfl (by kernel_rfl) (fun _ _ _ _ h => h) hC rfl ?_
            simp only [Act.put, List.setIfInBounds_toArray, List.set_cons_succ, List.set_cons_zero]
            refine Lim.stepS 12 (fun _ => trivial) rfl (by kernel_rfl) (fun _ _ _ _ h => h) hC rfl ?_
            simp only [Act.put, List.setIfInBounds_toArray, List.set_cons_succ, List.set_cons_zero]
            refine Lim.stepS 13 (fun _ => trivial) rfl (by kernel_rfl) (fun _ _ _ _ h => h) hC rfl ?_
            simp only [Act.put, List.setIfInBounds_toArray, List.set_cons_succ, List.set_cons_zero]
            refine Lim.stepS 14 (fun _ => trivial) rfl (by kernel_rfl) (fun _ _ _ _ h => h) hC rfl ?_
            simp only [Act.put, List.setIfInBounds_toArray, List.set_cons_succ, List.set_cons_zero]
            refine Lim.stepS 15 (fun _ => trivial) rfl (by kernel_rfl) (fun _ _ _ _ h => h) hC rfl ?_
            simp only [Act.put, List.setIfInBounds_toArray, List.set_cons_succ, List.set_cons_zero]
            refine Lim.stepS 16 (fun _ => trivial) rfl (by kernel_rfl) (fun _ _ _ _ h => h) hC rfl ?_
            simp only [Act.put, List.setIfInBounds_toArray, List.set_cons_succ, List.set_cons_zero]
            refine Lim.stepS 17 (fun _ => trivial) rfl (by kernel_rfl) (fun _ _ _ _ h => h) hC rfl ?_
            simp only [Act.put, List.setIfInBounds_toArray, List.set_cons_succ, List.set_cons_zero]
            refine Lim.stepS 18 (fun _ => trivial) rfl (by kernel_rfl) (fun _ _ _ _ h => h) hC rfl ?_
            simp only [Act.put, List.setIfInBounds_toArray, List.set_cons_succ, List.set_cons_zero]
            refine Lim.stepS 19 (fun _ => trivial) rfl (by kernel_rfl) (fun _ _ _ _ h => h) hC rfl ?_
            simp only [Act.put, List.setIfInBounds_toArray, List.set_cons_succ, List.set_cons_zero]
            refine Lim.stepS 20 (fun _ => trivial) rfl (by kernel_rfl) (fun _ _ _ _ h => h) hC rfl ?_
            simp only [Act.put, List.setIfInBounds_toArray, List.set_cons_succ, List.set_cons_zero]
            refine Lim.stepS 21 (fun _ => trivial) rfl (by kernel_rfl) (fun _ _ _ _ h => h) hC rfl ?_
            simp only [Act.put, List.setIfInBounds_toArray, List.set_cons_succ, List.set_cons_zero]
            refine Lim.stepS 22 (fun _ => trivial) rfl (by kernel_rfl) (fun _ _ _ _ h => h) hC rfl ?_
            simp only [Act.put, List.setIfInBounds_toArray, List.set_cons_succ, List.set_cons_zero]
            refine Lim.stepS 23 (fun _ => trivial) rfl (by kernel_rfl) (fun _ _ _ _ h => h) hC rfl ?_
            simp only [Act.put, List.setIfInBounds_toArray, List.set_cons_succ, List.set_cons_zero]
            refine Lim.stepS 24 (fun _ => trivial) rfl (by kernel_rfl) (fun _ _ _ _ h => h) hC rfl ?_
            simp only [Act.put, List.setIfInBounds_toArray, List.set_cons_succ, List.set_cons_zero]
            refine Lim.stepS 25 (fun _ => trivial) rfl (by kernel_rfl) (fun _ _ _ _ h => h) hC rfl ?_
            simp only [Act.put, List.setIfInBounds_toArray, List.set_cons_succ, List.set_cons_zero]
            refine Lim.stepR 26 (fun _ => trivial) rfl (by kernel_rfl) (fun _ _ _ _ h => h) hC rfl ?_; apply Exists.intro; refine ⟨?_, ?_⟩
            ·rintro w ⟨r1, r2, r3, r4⟩; go_simp; try with_reducible rfl
            simp only [Act.put, List.setIfInBounds_toArray, List.set_cons_succ, List.set_cons_zero]
            refine Lim.stepD (by kernel_rfl) ?_
            clear hC
            go_wp2_with fail
            go_ret2
            exact HF2.out false _ HB4.out.drew ⟨fun h => (by cases h), fun h => by
             have h1 := (HLI.out.1 h).2.2.2 xt HT.out.2.2
             rw [← HT.out.2.1] at h1
             exact absurd HUJ.out h1⟩
           ·have d1 : ((ut : Int) == j') = false := by rw [beq_eq_false_iff_ne]; omega
            have d1' : (ut == j') = false := by rw [beq_eq_false_iff_ne]; omega
            have HUJ := Lib.hid huj
            clear huj
            by_cases ht0 : t = 0
            ·have d2 : decide ((0 : Int) < (t : Int)) = false := by simp; omega
             have d2' : decide (0 < t) = false := by simp; omega
             have HT0 := Lib.hid ht0
             clear ht0
             go_upto_region 15 with (fail)
             have hC : (fun W => W.cell? ⟨q, 0, none⟩ = some (.int .i64 m.wd) ∧ W.cell? ⟨q, 1, none⟩ = some (.slice oa n oc) ∧ W.cell? ⟨sb, so + t, none⟩ = some (.int .i64 xt) ∧ W.cell? ⟨gl, ol + xt, none⟩ = some (.int .i64 ut)) wr0.drew := ⟨f0, f1, ct, cu⟩
             refine Lim.regC' (fun W => W.cell? ⟨q, 0, none⟩ = some (.int .i64 m.wd) ∧ W.cell? ⟨q, 1, none⟩ = some (.slice oa n oc) ∧ W.cell? ⟨sb, so + t, none⟩ = some (.int .i64 xt) ∧ W.cell? ⟨gl, ol + xt, none⟩ = some (.int .i64 ut)) [] #[false, false, false, false, false, false, false, false, false, false, false, false, false, false, false, false, false, false, false, false, false, false, false, false, false, false, false] (by kernel_rfl) rfl ?_
             refine Lim.stepR 0 (fun _ => trivial) rfl (by kernel_rfl) (fun _ _ _ _ h => h) hC rfl ?_; apply Exists.intro; refine ⟨?_, ?_⟩
             ·rintro w ⟨r1, r2, r3, r4⟩; go_simp; try with_reducible rfl
             simp only [Act.put, List.setIfInBounds_toArray, List.set_cons_succ, List.set_cons_zero]
             refine Lim.stepR 1 (fun _ => trivial) rfl (by kernel_rfl) (fun _ _ _ _ h => h) hC rfl ?_; apply Exists.intro; refine ⟨?_, ?_⟩
             ·rintro w ⟨r1, r2, r3, r4⟩; go_simp; try with_reducible rfl
             simp only [Act.put, List.setIfInBounds_toArray, List.set_cons_succ, List.set_cons_zero]
             refine Lim.stepR 2 (fun _ => trivial) rfl (by kernel_rfl) (fun _ _ _ _ h => h) hC rfl ?_; apply Exists.intro; refine ⟨?_, ?_⟩
             ·rintro w ⟨r1, r2, r3, r4⟩; go_simp; try with_reducible rfl
             simp only [Act.put, List.setIfInBounds_toArray, List.set_cons_succ, List.set_cons_zero]
             refine Lim.stepR 3 (fun _ => trivial) rfl (by kernel_rfl) (fun _ _ _ _ h => h) hC rfl ?_; apply Exists.intro; refine ⟨?_, ?_⟩
             ·rintro w ⟨r1, r2, r3, r4⟩; go_simp; try with_reducible rfl
             simp only [Act.put, List.setIfInBounds_toArray, List.set_cons_succ, List.set_cons_zero]
             refine Lim.stepR 4 (fun _ => trivial) rfl (by kernel_rfl) (fun _ _ _ _ h => h) hC rfl ?_; apply Exists.intro; refine ⟨?_, ?_⟩
             ·rintro w ⟨r1, r2, r3, r4⟩; go_simp; try with_reducible rfl
             simp only [Act.put, List.setIfInBounds_toArray, List.set_cons_succ, List.set_cons_zero]
             refine Lim.stepR 5 (fun _ => trivial) rfl (by kernel_rfl) (fun _ _ _ _ h => h) hC rfl ?_; apply Exists.intro; refine ⟨?_, ?_⟩
             ·rintro w ⟨r1, r2, r3, r4⟩; go_simp; try with_reducible rfl
             simp only [Act.put, List.setIfInBounds_toArray, List.set_cons_succ, List.set_cons_zero]
             refine Lim.stepR 6 (fun _ => trivial) rfl (by kernel_rfl) (fun _ _ _ _ h => h) hC rfl ?_; apply Exists.intro; refine ⟨?_, ?_⟩
             ·rintro w ⟨r1, r2, r3, r4⟩; go_simp; try with_reducible rfl
             simp only [Act.put, List.setIfInBounds_toArray, List.set_cons_succ, List.set_cons_zero]
             refine Lim.stepR 7 (fun _ => trivial) rfl (by kernel_rfl) (fun _ _ _ _ h => h) hC rfl ?_; apply Exists.intro; refine ⟨?_, ?_⟩
             ·rintro w ⟨r1, r2, r3, r4⟩; go_simp; try with_reducible rfl
             simp only [Act.put, List.setIfInBounds_toArray, List.set_cons_succ, List.set_cons_zero]
             refine Lim.stepR 8 (fun _ => trivial) rfl (by kernel_rfl) (fun _ _ _ _ h => h) hC rfl ?_; apply Exists.intro; refine ⟨?_, ?_⟩
             ·rintro w ⟨r1, r2, r3, r4⟩; go_simp; try with_reducible rfl
             simp only [Act.put, List.setIfInBounds_toArray, List.set_cons_succ, List.set_cons_zero]
             refine Lim.stepR 9 (fun _ => trivial) rfl (by kernel_rfl) (fun _ _ _ _ h => h) hC rfl ?_; apply Exists.intro; refine ⟨?_, ?_⟩
             ·rintro w ⟨r1, r2, r3, r4⟩; go_simp; try with_reducible rfl
             simp only [Act.put, List.setIfInBounds_toArray, List.set_cons_succ, List.set_cons_zero]
             refine Lim.stepR 10 (fun _ => trivial) rfl (by kernel_rfl) (fun _ _ _ _ h => h) hC rfl ?_; apply Exists.intro; refine ⟨?_, ?_⟩
             ·rintro w ⟨r1, r2, r3, r4⟩; go_simp; try with_reducible rfl
             simp only [Act.put, List.setIfInBounds_toArray, List.set_cons_succ, List.set_cons_zero]
             refine Lim.stepR 11 (fun _ => trivial) rfl (by kernel_rfl) (fun _ _ _ _ h => h) hC rfl ?_; apply Exists.intro; refine ⟨?_, ?_⟩
             ·rintro w ⟨r1, r2, r3, r4⟩; go_simp; try with_reducible rfl
             simp only [Act.put, List.setIfInBounds_toArray, List.set_cons_succ, List.set_cons_zero]
             refine Lim.stepR 12 (fun _ => trivial) rfl (by kernel_rfl) (fun _ _ _ _ h => h) hC rfl ?_; apply Exists.intro; refine ⟨?_, ?_⟩
             ·rintro w ⟨r1, r2, r3, r4⟩; go_simp; try with_reducible rfl
             simp only [Act.put, List.setIfInBounds_toArray, List.set_cons_succ, List.set_cons_zero]
             refine Lim.stepS 13 (fun _ => trivial) rfl (by kernel_rfl) (fun _ _ _ _ h => h) hC rfl ?_
             simp only [Act.put, List.setIfInBounds_toArray, List.set_cons_succ, List.set_cons_zero]
             refine Lim.stepS 14 (fun _ => trivial) rfl (by kernel_rfl) (fun _ _ _ _ h => h) hC rfl ?_
             simp only [Act.put, List.setIfInBounds_toArray, List.set_cons_succ, List.set_cons_zero]
             refine Lim.stepS 15 (fun _ => trivial) rfl (by kernel_rfl) (fun _ _ _ _ h => h) hC rfl ?_
             simp only [Act.put, List.setIfInBounds_toArray, List.set_cons_succ, List.set_cons_zero]
             refine Lim.stepS 16 (fun _ => trivial) rfl (by kernel_rfl) (fun _ _ _ _ h => h) hC rfl ?_
             simp only [Act.put, List.setIfInBounds_toArray, List.set_cons_succ, List.set_cons_zero]
             refine Lim.stepS 17 (fun _ => trivial) rfl (by kernel_rfl) (fun _ _ _ _ h => h) hC rfl ?_
             simp only [Act.put, List.setIfInBounds_toArray, List.set_cons_succ, List.set_cons_zero]
             refine Lim.stepS 18 (fun _ => trivial) rfl (by kernel_rfl) (fun _ _ _ _ h => h) hC rfl ?_
             simp only [Act.put, List.setIfInBounds_toArray, List.set_cons_succ, List.set_cons_zero]
             refine Lim.stepS 19 (fun _ => trivial) rfl (by kernel_rfl) (fun _ _ _ _ h => h) hC rfl ?_
             simp only [Act.put, List.setIfInBounds_toArray, List.set_cons_succ, List.set_cons_zero]
             refine Lim.stepS 20 (fun _ => trivial) rfl (by kernel_rfl) (fun _ _ _ _ h => h) hC rfl ?_
             simp only [Act.put, List.setIfInBounds_toArray, List.set_cons_succ, List.set_cons_zero]
             refine Lim.stepS 21 (fun _ => trivial) rfl (by kernel_rfl) (fun _ _ _ _ h => h) hC rfl ?_
             simp only [Act.put, List.setIfInBounds_toArray, List.set_cons_succ, List.set_cons_zero]
             refine Lim.stepS 22 (fun _ => trivial) rfl (by kernel_rfl) (fun _ _ _ _ h => h) hC rfl ?_
             simp only [Act.put, List.setIfInBounds_toArray, List.set_cons_succ, List.set_cons_zero]
             refine Lim.stepS 23 (fun _ => trivial) rfl (by kernel_rfl) (fun _ _ _ _ h => h) hC rfl ?_
             simp only [Act.put, List.setIfInBounds_toArray, List.set_cons_succ, List.set_cons_zero]
             refine Lim.stepS 24 (fun _ => trivial) rfl (by kernel_rfl) (fun _ _ _ _ h => h) hC rfl ?_
             simp only [Act.put, List.setIfInBounds_toArray, List.set_cons_succ, List.set_cons_zero]
             refine Lim.stepR 25 (fun _ => trivial) rfl (by kernel_rfl) (fun _ _ _ _ h => h) hC rfl ?_; apply Exists.intro; refine ⟨?_, ?_⟩
             ·rintro w ⟨r1, r2, r3, r4⟩; go_simp; try with_reducible rfl
             simp only [Act.put, List.setIfInBounds_toArray, List.set_cons_succ, List.set_cons_zero]
             refine Lim.stepR 26 (fun _ => trivial) rfl (by kernel_rfl) (fun _ _ _ _ h => h) hC rfl ?_; apply Exists.intro; refine ⟨?_, ?_⟩
             ·rintro w ⟨r1, r2, r3, r4⟩; go_simp; try with_reducible rfl
             simp only [Act.put, List.setIfInBounds_toArray, List.set_cons_succ, List.set_cons_zero]
             refine Lim.stepD (by kernel_rfl) ?_
             clear hC
             go_wp2_with fail
             go_roundw
             case rel =>
              have h0 := HT0.out
              refine ⟨t + 1, by omega, by go_num, Lib.hid ⟨hI.out.1.drew, fun a ha => ?_, fun a ha => by omega⟩⟩
              rw [show a = t by omega, HT.out.1, ← HT.out.2.1]; exact HUJ.out
             case measure => simp [intOf]; omega
            ·have d2 : decide ((0 : Int) < (t : Int)) = true := by simp; omega
             have d2' : decide (0 < t) = true := by simp; omega
             obtain ⟨t1, ht1⟩ : ∃ t1, t = t1 + 1 := ⟨t - 1, by omega⟩
             have ht1N : t1 < N := by omega
             have ht164 : (t1 : Int) < N := by omega
             have hw3 : IntKind.i64.wrap ((t : Int) - 1) = (t1 : Int) := by rw [IntWalk.i64_in _ (by omega)]; omega
             have HT1 := Lib.hid ht1
             obtain ⟨xp, hxp, hxp', hxpn⟩ := HLX.out t1 ht1N
             have cp := HCX.out wr0 HB4.out t1 ht1N
             rw [hxp'] at cp
             obtain ⟨z2, hz2⟩ : ∃ z, z = nbB m xp xt := ⟨_, rfl⟩
             have HBE : Hid (∀ W, Calls Try.prog 64 #[.agg #[.int .i64 m.wd, .slice oa n oc], .int .i64 xp, .int .i64 xt] W fun e w' => e = .returned (.bool z2) ∧ Below W.heap.size W w') := Lib.hid fun W => by
              rw [hz2]
              have e : m.n = n := HNN.out
              rw [← e]
              exact rbeside_any HM.out.1 (by rw [e]; exact hxpn) (by rw [e]; exact hxtn)
             have HPX : Hid (L.getD t1 0 = xp ∧ (z2 = true ↔ nb m xp xt)) := Lib.hid ⟨by rw [List.getD_eq_getElem?_getD, hxp]; rfl, by rw [hz2, nbB_iff]⟩
             clear hxp hxp' hz2 ht1 ht0
             obtain ⟨HP, -⟩ : Hid (Below w.heap.size w wr0) ∧ True := ⟨HB4, trivial⟩
             go_upto_region 15 with (fail)
             have hC : (fun W => W.cell? ⟨q, 0, none⟩ = some (.int .i64 m.wd) ∧ W.cell? ⟨q, 1, none⟩ = some (.slice oa n oc) ∧ W.cell? ⟨sb, so + t, none⟩ = some (.int .i64 xt) ∧ W.cell? ⟨gl, ol + xt, none⟩ = some (.int .i64 ut) ∧ W.cell? ⟨sb, so + t1, none⟩ = some (.int .i64 xp)) wr0.drew := ⟨f0, f1, ct, cu, cp⟩
             refine Lim.regC' (fun W => W.cell? ⟨q, 0, none⟩ = some (.int .i64 m.wd) ∧ W.cell? ⟨q, 1, none⟩ = some (.slice oa n oc) ∧ W.cell? ⟨sb, so + t, none⟩ = some (.int .i64 xt) ∧ W.cell? ⟨gl, ol + xt, none⟩ = some (.int .i64 ut) ∧ W.cell? ⟨sb, so + t1, none⟩ = some (.int .i64 xp)) [] #[false, false, false, false, false, false, false, false, false, false, false, false, false, false, false, false, false, false, false, false, false, false, false, false, false, false, false] (by kernel_rfl) rfl ?_
             refine Lim.stepR 0 (fun _ => trivial) rfl (by kernel_rfl) (fun _ _ _ _ h => h) hC rfl ?_; apply Exists.intro; refine ⟨?_, ?_⟩
             ·rintro w ⟨r1, r2, r3, r4, r5⟩; go_simp; try with_reducible rfl
             simp only [Act.put, List.setIfInBounds_toArray, List.set_cons_succ, List.set_cons_zero]
             refine Lim.stepR 1 (fun _ => trivial) rfl (by kernel_rfl) (fun _ _ _ _ h => h) hC rfl ?_; apply Exists.intro; refine ⟨?_, ?_⟩
             ·rintro w ⟨r1, r2, r3, r4, r5⟩; go_simp; try with_reducible rfl
             simp only [Act.put, List.setIfInBounds_toArray, List.set_cons_succ, List.set_cons_zero]
             refine Lim.stepR 2 (fun _ => trivial) rfl (by kernel_rfl) (fun _ _ _ _ h => h) hC rfl ?_; apply Exists.intro; refine ⟨?_, ?_⟩
             ·rintro w ⟨r1, r2, r3, r4, r5⟩; go_simp; try with_reducible rfl
             simp only [Act.put, List.setIfInBounds_toArray, List.set_cons_succ, List.set_cons_zero]
             refine Lim.stepR 3 (fun _ => trivial) rfl (by kernel_rfl) (fun _ _ _ _ h => h) hC rfl ?_; apply Exists.intro; refine ⟨?_, ?_⟩
             ·rintro w ⟨r1, r2, r3, r4, r5⟩; go_simp; try with_reducible rfl
             simp only [Act.put, List.setIfInBounds_toArray, List.set_cons_succ, List.set_cons_zero]
             refine Lim.stepR 4 (fun _ => trivial) rfl (by kernel_rfl) (fun _ _ _ _ h => h) hC rfl ?_; apply Exists.intro; refine ⟨?_, ?_⟩
             ·rintro w ⟨r1, r2, r3, r4, r5⟩; go_simp; try with_reducible rfl
             simp only [Act.put, List.setIfInBounds_toArray, List.set_cons_succ, List.set_cons_zero]
             refine Lim.stepR 5 (fun _ => trivial) rfl (by kernel_rfl) (fun _ _ _ _ h => h) hC rfl ?_; apply Exists.intro; refine ⟨?_, ?_⟩
             ·rintro w ⟨r1, r2, r3, r4, r5⟩; go_simp; try with_reducible rfl
             simp only [Act.put, List.setIfInBounds_toArray, List.set_cons_succ, List.set_cons_zero]
             refine Lim.stepR 6 (fun _ => trivial) rfl (by kernel_rfl) (fun _ _ _ _ h => h) hC rfl ?_; apply Exists.intro; refine ⟨?_, ?_⟩
             ·rintro w ⟨r1, r2, r3, r4, r5⟩; go_simp; try with_reducible rfl
             simp only [Act.put, List.setIfInBounds_toArray, List.set_cons_succ, List.set_cons_zero]
             refine Lim.stepR 7 (fun _ => trivial) rfl (by kernel_rfl) (fun _ _ _ _ h => h) hC rfl ?_; apply Exists.intro; refine ⟨?_, ?_⟩
             ·rintro w ⟨r1, r2, r3, r4, r5⟩; go_simp; try with_reducible rfl
             simp only [Act.put, List.setIfInBounds_toArray, List.set_cons_succ, List.set_cons_zero]
             refine Lim.stepR 8 (fun _ => trivial) rfl (by kernel_rfl) (fun _ _ _ _ h => h) hC rfl ?_; apply Exists.intro; refine ⟨?_, ?_⟩
             ·rintro w ⟨r1, r2, r3, r4, r5⟩; go_simp; try with_reducible rfl
             simp only [Act.put, List.setIfInBounds_toArray, List.set_cons_succ, List.set_cons_zero]
             refine Lim.stepR 9 (fun _ => trivial) rfl (by kernel_rfl) (fun _ _ _ _ h => h) hC rfl ?_; apply Exists.intro; refine ⟨?_, ?_⟩
             ·rintro w ⟨r1, r2, r3, r4, r5⟩; go_simp; try with_reducible rfl
             simp only [Act.put, List.setIfInBounds_toArray, List.set_cons_succ, List.set_cons_zero]
             refine Lim.stepR 10 (fun _ => trivial) rfl (by kernel_rfl) (fun _ _ _ _ h => h) hC rfl ?_; apply Exists.intro; refine ⟨?_, ?_⟩
             ·rintro w ⟨r1, r2, r3, r4, r5⟩; go_simp; try with_reducible rfl
             simp only [Act.put, List.setIfInBounds_toArray, List.set_cons_succ, List.set_cons_zero]
             refine Lim.stepR 11 (fun _ => trivial) rfl (by kernel_rfl) (fun _ _ _ _ h => h) hC rfl ?_; apply Exists.intro; refine ⟨?_, ?_⟩
             ·rintro w ⟨r1, r2, r3, r4, r5⟩; go_simp; try with_reducible rfl
             simp only [Act.put, List.setIfInBounds_toArray, List.set_cons_succ, List.set_cons_zero]
             refine Lim.stepR 12 (fun _ => trivial) rfl (by kernel_rfl) (fun _ _ _ _ h => h) hC rfl ?_; apply Exists.intro; refine ⟨?_, ?_⟩
             ·rintro w ⟨r1, r2, r3, r4, r5⟩; go_simp; try with_reducible rfl
             simp only [Act.put, List.setIfInBounds_toArray, List.set_cons_succ, List.set_cons_zero]
             refine Lim.stepR 13 (fun _ => trivial) rfl (by kernel_rfl) (fun _ _ _ _ h => h) hC rfl ?_; apply Exists.intro; refine ⟨?_, ?_⟩
             ·rintro w ⟨r1, r2, r3, r4, r5⟩; go_simp; try with_reducible rfl
             simp only [Act.put, List.setIfInBounds_toArray, List.set_cons_succ, List.set_cons_zero]
             refine Lim.stepR 14 (fun _ => trivial) rfl (by kernel_rfl) (fun _ _ _ _ h => h) hC rfl ?_; apply Exists.intro; refine ⟨?_, ?_⟩
             ·rintro w ⟨r1, r2, r3, r4, r5⟩; go_simp; try with_reducible rfl
             simp only [Act.put, List.setIfInBounds_toArray, List.set_cons_succ, List.set_cons_zero]
             refine Lim.stepR 15 (fun _ => trivial) rfl (by kernel_rfl) (fun _ _ _ _ h => h) hC rfl ?_; apply Exists.intro; refine ⟨?_, ?_⟩
             ·rintro w ⟨r1, r2, r3, r4, r5⟩; go_simp; try with_reducible rfl
             simp only [Act.put, List.setIfInBounds_toArray, List.set_cons_succ, List.set_cons_zero]
             refine Lim.stepR 16 (fun _ => trivial) rfl (by kernel_rfl) (fun _ _ _ _ h => h) hC rfl ?_; apply Exists.intro; refine ⟨?_, ?_⟩
             ·rintro w ⟨r1, r2, r3, r4, r5⟩; go_simp; try with_reducible rfl
             simp only [Act.put, List.setIfInBounds_toArray, List.set_cons_succ, List.set_cons_zero]
             refine Lim.stepR 17 (fun _ => trivial) rfl (by kernel_rfl) (fun _ _ _ _ h => h) hC rfl ?_; apply Exists.intro; refine ⟨?_, ?_⟩
             ·rintro w ⟨r1, r2, r3, r4, r5⟩; go_simp; try with_reducible rfl
             simp only [Act.put, List.setIfInBounds_toArray, List.set_cons_succ, List.set_cons_zero]
             refine Lim.stepR 18 (fun _ => trivial) rfl (by kernel_rfl) (fun _ _ _ _ h => h) hC rfl ?_; apply Exists.intro; refine ⟨?_, ?_⟩
             ·rintro w ⟨r1, r2, r3, r4, r5⟩; go_simp; try with_reducible rfl
             simp only [Act.put, List.setIfInBounds_toArray, List.set_cons_succ, List.set_cons_zero]
             refine Lim.stepR 19 (fun _ => trivial) rfl (by kernel_rfl) (fun _ _ _ _ h => h) hC rfl ?_; apply Exists.intro; refine ⟨?_, ?_⟩
             ·rintro w ⟨r1, r2, r3, r4, r5⟩; go_simp; try with_reducible rfl
             simp only [Act.put, List.setIfInBounds_toArray, List.set_cons_succ, List.set_cons_zero]
             refine Lim.stepR 20 (fun _ => trivial) rfl (by kernel_rfl) (fun _ _ _ _ h => h) hC rfl ?_; apply Exists.intro; refine ⟨?_, ?_⟩
             ·rintro w ⟨r1, r2, r3, r4, r5⟩; go_simp; try with_reducible rfl
             simp only [Act.put, List.setIfInBounds_toArray, List.set_cons_succ, List.set_cons_zero]
             refine Lim.stepR 21 (fun _ => trivial) rfl (by kernel_rfl) (fun _ _ _ _ h => h) hC rfl ?_; apply Exists.intro; refine ⟨?_, ?_⟩
             ·rintro w ⟨r1, r2, r3, r4, r5⟩; go_simp; try with_reducible rfl
             simp only [Act.put, List.setIfInBounds_toArray, List.set_cons_succ, List.set_cons_zero]
             refine Lim.stepR 22 (fun _ => trivial) rfl (by kernel_rfl) (fun _ _ _ _ h => h) hC rfl ?_; apply Exists.intro; refine ⟨?_, ?_⟩
             ·rintro w ⟨r1, r2, r3, r4, r5⟩; go_simp; try with_reducible rfl
             simp only [Act.put, List.setIfInBounds_toArray, List.set_cons_succ, List.set_cons_zero]
             refine Lim.stepE 23 (fun _ => trivial) rfl (by kernel_rfl) rfl (fun K hK => ?_)   -- E call
             go_simp
             refine ⟨rfl, (callsIn_wide.2 (HBE.out _)).mono ?_⟩
             rintro e w9 ⟨rfl, hb9⟩
             have HPX9 := Lib.hid (HP.out.trans (((Below.refl _ wr0).drew.trans hb9).mono HP.out.size))
             have hC9 : (fun W => W.cell? ⟨q, 0, none⟩ = some (.int .i64 m.wd) ∧ W.cell? ⟨q, 1, none⟩ = some (.slice oa n oc) ∧ W.cell? ⟨sb, so + t, none⟩ = some (.int .i64 xt) ∧ W.cell? ⟨gl, ol + xt, none⟩ = some (.int .i64 ut) ∧ W.cell? ⟨sb, so + t1, none⟩ = some (.int .i64 xp)) w9 := ⟨hb9.on hC.1, hb9.on hC.2.1, hb9.on hC.2.2.1, hb9.on hC.2.2.2.1, hb9.on hC.2.2.2.2⟩
             refine hK _ _ hC9 ?_
             have hb9c := hb9
             clear hb9
             simp only [Act.put, List.setIfInBounds_toArray, List.set_cons_succ, List.set_cons_zero]
             have HB90 := Lib.hid ((Below.refl wr0.heap.size wr0).drew.trans hb9c)
             refine Lim.stepR 24 (fun _ => trivial) rfl (by kernel_rfl) (fun _ _ _ _ h => h) hC9 rfl ?_; apply Exists.intro; refine ⟨?_, ?_⟩
             ·rintro w ⟨r1, r2, r3, r4, r5⟩; go_simp; try with_reducible rfl
             simp only [Act.put, List.setIfInBounds_toArray, List.set_cons_succ, List.set_cons_zero]
             refine Lim.stepR 25 (fun _ => trivial) rfl (by kernel_rfl) (fun _ _ _ _ h => h) hC9 rfl ?_; apply Exists.intro; refine ⟨?_, ?_⟩
             ·rintro w ⟨r1, r2, r3, r4, r5⟩; go_simp; try with_reducible rfl
             simp only [Act.put, List.setIfInBounds_toArray, List.set_cons_succ, List.set_cons_zero]
             refine Lim.stepR 26 (fun _ => trivial) rfl (by kernel_rfl) (fun _ _ _ _ h => h) hC9 rfl ?_; apply Exists.intro; refine ⟨?_, ?_⟩
             ·rintro w ⟨r1, r2, r3, r4, r5⟩; go_simp; try with_reducible rfl
             simp only [Act.put, List.setIfInBounds_toArray, List.set_cons_succ, List.set_cons_zero]
             refine Lim.stepD (by kernel_rfl) ?_
             clear hC hC9
             cases z2 with
             | false =>
              have HNB : Hid (¬ nb m xp xt) := Lib.hid (fun h => by have := HPX.out.2.2 h; cases this)
              go_wp2_with fail
              go_ret2
              exact HF2.out false _ HPX9.out ⟨fun h => (by cases h), fun h => by
               have h1 := (HLI.out.1 h).1
               rw [goesB, Bool.and_eq_true, goesTo_iff] at h1
               have h2 := h1.1 t1 (by rw [HLN.out.1]; have := HT1.out; omega)
               rw [← HT1.out, HPX.out.1, HT.out.1] at h2
               exact absurd h2 HNB.out⟩
             | true =>
              have HNB := Lib.hid (HPX.out.2.1 rfl)
              have HNEXT : Hid (Below w9'.heap.size w9' w9 ∧ (∀ a, a < t + 1 → r (L.getD a 0) ≠ j') ∧ ∀ a, a + 1 < t + 1 → nb m (L.getD a 0) (L.getD (a + 1) 0)) := by
               rw [HW9.out]
               refine Lib.hid ⟨hI.out.1.trans (HB90.out.mono hI.out.1.size), fun a ha => ?_, fun a ha => ?_⟩
               ·by_cases e : a = t
                ·rw [e, HT.out.1, ← HT.out.2.1]; exact HUJ.out
                ·exact hI.out.2.1 a (by omega)
               ·by_cases e : a + 1 = t
                ·have e2 : a = t1 := by have := HT1.out; omega
                 rw [e, HT.out.1, e2, HPX.out.1]; exact HNB.out
                ·exact hI.out.2.2 a (by omega)
              go_wp2_with fail
              go_roundw
              case rel =>
               rw [HW9.out] at HNEXT
               first
                | exact ⟨t + 1, by omega, by go_num, HNEXT⟩
                | exact ⟨_, _, _, ⟨t + 1, by omega, rfl, HNEXT⟩, rfl, rfl, by go_num⟩
                | exact ⟨_, _, _, ⟨t + 1, by omega, rfl, HNEXT⟩, rfl, rfl, rfl⟩
              case measure => simp [intOf]; omega
          ·have hs' : ¬ (t : Int) < N := by omega
           obtain rfl : t = N := by omega
           go_wp2_with fail
           go_ret2
           refine HF2.out true _ (HP9.out.trans (hI.out.1.mono HP9.out.size)) ⟨fun _ => HLI.out.2 ⟨?_, ?_, ?_, ?_⟩, fun _ => rfl⟩
           ·rw [goesB, Bool.and_eq_true, goesTo_iff]
            refine ⟨fun a ha => hI.out.2.2 a (by rw [HLN.out.1] at ha; exact ha), by rw [HLN.out.1]; simpa using hN1⟩
           ·rw [HG.out.1, ← HU.out.1]; exact HUI.out
           ·rw [HG.out.2, ← HU.out.2]
           ·intro p hp
            obtain ⟨a, ha, rfl⟩ := List.mem_iff_getElem.1 hp
            have h := hI.out.2.1 a (by rw [HLN.out.1] at ha; exact ha)
            rwa [List.getD_eq_getElem?_getD, List.getElem?_eq_getElem ha] at h
       ·have d1 : ((u0 : Int) != i') = true := by simp; omega
        have d1' : (u0 != i') = true := by simpa using hui
        have HUI := Lib.hid hui
        clear hui
        refine Lim.regC' (fun W => W.cell? ⟨q, 0, none⟩ = some (.int .i64 m.wd) ∧ W.cell? ⟨q, 1, none⟩ = some (.slice oa n oc) ∧ W.cell? ⟨sb, so, none⟩ = some (.int .i64 x0) ∧ W.cell? ⟨sb, so + l1, none⟩ = some (.int .i64 xl) ∧ W.cell? ⟨gl, ol + x0, none⟩ = some (.int .i64 u0)) [] #[false, false, false, false, false, false, false, false, false, false, false, false, false, false, false, false, false, false, false, false, false, false, false, false] (by kernel_rfl) rfl ?_
        refine Lim.stepR 0 (fun _ => trivial) rfl (by kernel_rfl) (fun _ _ _ _ h => h) hC rfl ?_; apply Exists.intro; refine ⟨?_, ?_⟩
        ·rintro w ⟨r1, r2, r3, r4, r5⟩; go_simp; try with_reducible rfl
        simp only [Act.put, List.setIfInBounds_toArray, List.set_cons_succ, List.set_cons_zero]
        refine Lim.stepR 1 (fun _ => trivial) rfl (by kernel_rfl) (fun _ _ _ _ h => h) hC rfl ?_; apply Exists.intro; refine ⟨?_, ?_⟩
        ·rintro w ⟨r1, r2, r3, r4, r5⟩; go_simp; try with_reducible rfl
        simp only [Act.put, List.setIfInBounds_toArray, List.set_cons_succ, List.set_cons_zero]
        refine Lim.stepR 2 (fun _ => trivial) rfl (by kernel_rfl) (fun _ _ _ _ h => h) hC rfl ?_; apply Exists.intro; refine ⟨?_, ?_⟩
        ·rintro w ⟨r1, r2, r3, r4, r5⟩; go_simp; try with_reducible rfl
        simp only [Act.put, List.setIfInBounds_toArray, List.set_cons_succ, List.set_cons_zero]
        refine Lim.stepR 3 (fun _ => trivial) rfl (by kernel_rfl) (fun _ _ _ _ h => h) hC rfl ?_; apply Exists.intro; refine ⟨?_, ?_⟩
        ·rintro w ⟨r1, r2, r3, r4, r5⟩; go_simp; try with_reducible rfl
        simp only [Act.put, List.setIfInBounds_toArray, List.set_cons_succ, List.set_cons_zero]
        refine Lim.stepR 4 (fun _ => trivial) rfl (by kernel_rfl) (fun _ _ _ _ h => h) hC rfl ?_; apply Exists.intro; refine ⟨?_, ?_⟩
        ·rintro w ⟨r1, r2, r3, r4, r5⟩; go_simp; try with_reducible rfl
        simp only [Act.put, List.setIfInBounds_toArray, List.set_cons_succ, List.set_cons_zero]
        refine Lim.stepR 5 (fun _ => trivial) rfl (by kernel_rfl) (fun _ _ _ _ h => h) hC rfl ?_; apply Exists.intro; refine ⟨?_, ?_⟩
        ·rintro w ⟨r1, r2, r3, r4, r5⟩; go_simp; try with_reducible rfl
        simp only [Act.put, List.setIfInBounds_toArray, List.set_cons_succ, List.set_cons_zero]
        refine Lim.stepR 6 (fun _ => trivial) rfl (by kernel_rfl) (fun _ _ _ _ h => h) hC rfl ?_; apply Exists.intro; refine ⟨?_, ?_⟩
        ·rintro w ⟨r1, r2, r3, r4, r5⟩; go_simp; try with_reducible rfl
        simp only [Act.put, List.setIfInBounds_toArray, List.set_cons_succ, List.set_cons_zero]
        refine Lim.stepR 7 (fun _ => trivial) rfl (by kernel_rfl) (fun _ _ _ _ h => h) hC rfl ?_; apply Exists.intro; refine ⟨?_, ?_⟩
        ·rintro w ⟨r1, r2, r3, r4, r5⟩; go_simp; try with_reducible rfl
        simp only [Act.put, List.setIfInBounds_toArray, List.set_cons_succ, List.set_cons_zero]
        refine Lim.stepR 8 (fun _ => trivial) rfl (by kernel_rfl) (fun _ _ _ _ h => h) hC rfl ?_; apply Exists.intro; refine ⟨?_, ?_⟩
        ·rintro w ⟨r1, r2, r3, r4, r5⟩; go_simp; try with_reducible rfl
        simp only [Act.put, List.setIfInBounds_toArray, List.set_cons_succ, List.set_cons_zero]
        refine Lim.stepR 9 (fun _ => trivial) rfl (by kernel_rfl) (fun _ _ _ _ h => h) hC rfl ?_; apply Exists.intro; refine ⟨?_, ?_⟩
        ·rintro w ⟨r1, r2, r3, r4, r5⟩; go_simp; try with_reducible rfl
        simp only [Act.put, List.setIfInBounds_toArray, List.set_cons_succ, List.set_cons_zero]
        refine Lim.stepR 10 (fun _ => trivial) rfl (by kernel_rfl) (fun _ _ _ _ h => h) hC rfl ?_; apply Exists.intro; refine ⟨?_, ?_⟩
        ·rintro w ⟨r1, r2, r3, r4, r5⟩; go_simp; try with_reducible rfl
        simp only [Act.put, List.setIfInBounds_toArray, List.set_cons_succ, List.set_cons_zero]
        refine Lim.stepR 11 (fun _ => trivial) rfl (by kernel_rfl) (fun _ _ _ _ h => h) hC rfl ?_; apply Exists.intro; refine ⟨?_, ?_⟩
        ·rintro w ⟨r1, r2, r3, r4, r5⟩; go_simp; try with_reducible rfl
        simp only [Act.put, List.setIfInBounds_toArray, List.set_cons_succ, List.set_cons_zero]
        refine Lim.stepR 12 (fun _ => trivial) rfl (by kernel_rfl) (fun _ _ _ _ h => h) hC rfl ?_; apply Exists.intro; refine ⟨?_, ?_⟩
        ·rintro w ⟨r1, r2, r3, r4, r5⟩; go_simp; try with_reducible rfl
        simp only [Act.put, List.setIfInBounds_toArray, List.set_cons_succ, List.set_cons_zero]
        refine Lim.stepR 13 (fun _ => trivial) rfl (by kernel_rfl) (fun _ _ _ _ h => h) hC rfl ?_; apply Exists.intro; refine ⟨?_, ?_⟩
        ·rintro w ⟨r1, r2, r3, r4, r5⟩; go_simp; try with_reducible rfl
        simp only [Act.put, List.setIfInBounds_toArray, List.set_cons_succ, List.set_cons_zero]
        refine Lim.stepS 14 (fun _ => trivial) rfl (by kernel_rfl) (fun _ _ _ _ h => h) hC rfl ?_
        simp only [Act.put, List.setIfInBounds_toArray, List.set_cons_succ, List.set_cons_zero]
        refine Lim.stepS 15 (fun _ => trivial) rfl (by kernel_rfl) (fun _ _ _ _ h => h) hC rfl ?_
        simp only [Act.put, List.setIfInBounds_toArray, List.set_cons_succ, List.set_cons_zero]
        refine Lim.stepS 16 (fun _ => trivial) rfl (by kernel_rfl) (fun _ _ _ _ h => h) hC rfl ?_
        simp only [Act.put, List.setIfInBounds_toArray, List.set_cons_succ, List.set_cons_zero]
        refine Lim.stepS 17 (fun _ => trivial) rfl (by kernel_rfl) (fun _ _ _ _ h => h) hC rfl ?_
        simp only [Act.put, List.setIfInBounds_toArray, List.set_cons_succ, List.set_cons_zero]
        refine Lim.stepS 18 (fun _ => trivial) rfl (by kernel_rfl) (fun _ _ _ _ h => h) hC rfl ?_
        simp only [Act.put, List.setIfInBounds_toArray, List.set_cons_succ, List.set_cons_zero]
        refine Lim.stepS 19 (fun _ => trivial) rfl (by kernel_rfl) (fun _ _ _ _ h => h) hC rfl ?_
        simp only [Act.put, List.setIfInBounds_toArray, List.set_cons_succ, List.set_cons_zero]
        refine Lim.stepS 20 (fun _ => trivial) rfl (by kernel_rfl) (fun _ _ _ _ h => h) hC rfl ?_
        simp only [Act.put, List.setIfInBounds_toArray, List.set_cons_succ, List.set_cons_zero]
        refine Lim.stepS 21 (fun _ => trivial) rfl (by kernel_rfl) (fun _ _ _ _ h => h) hC rfl ?_
        simp only [Act.put, List.setIfInBounds_toArray, List.set_cons_succ, List.set_cons_zero]
        refine Lim.stepS 22 (fun _ => trivial) rfl (by kernel_rfl) (fun _ _ _ _ h => h) hC rfl ?_
        simp only [Act.put, List.setIfInBounds_toArray, List.set_cons_succ, List.set_cons_zero]
        refine Lim.stepR 23 (fun _ => trivial) rfl (by kernel_rfl) (fun _ _ _ _ h => h) hC rfl ?_; apply Exists.intro; refine ⟨?_, ?_⟩
        ·rintro w ⟨r1, r2, r3, r4, r5⟩; go_simp; try with_reducible rfl
        simp only [Act.put, List.setIfInBounds_toArray, List.set_cons_succ, List.set_cons_zero]
        refine Lim.stepD (by kernel_rfl) ?_
        clear hC
        go_wp2_with fail
        go_ret2
        exact HF2.out false _ HP.out.drew ⟨fun h => (by cases h), fun h => by
         have h1 := (HLI.out.1 h).2.1
         rw [HG.out.1, ← HU.out.1] at h1
         exact absurd h1 HUI.out⟩
   ·skip
    have HQB : Hid (q < w3.heap.size) := Lib.hid (World.block_lt_of_cell? _ _ f0)
    go_wp2_with fail
    go_loopw [11] (fun v wr => ∃ t : Nat, t ≤ N ∧ v = .int .i64 t ∧ Hid (Below w3.heap.size w3 wr ∧ ∀ s, s < t → 0 ≤ xs.getD s 0 ∧ xs.getD s 0 < n)) (fun v _ => N - (intOf v).toNat)
    case atStart => exact ⟨0, Nat.zero_le _, rfl, Lib.hid ⟨Below.refl _ _, fun s hs => by omega⟩⟩
    case round =>
     obtain ⟨t, ht, rfl, hJ⟩ := hrel
     replace HB3 := Lib.hid (HB3.out.trans (hJ.out.1.mono HB3.out.size))
     have f0 := hJ.out.1.on f0
     have f1 := hJ.out.1.on f1
     have HJB := Lib.hid hJ.out.1
     have hI := Lib.hid hJ.out.2
     clear hJ
     obtain ⟨i0, hi0⟩ : ∃ x, x = wr := ⟨_, rfl⟩
     subst hi0
     have ht64 : (t : Int) ≤ 100000 := by omega
     by_cases hlt : t < N
     ·have hlt64 : (t : Int) < N := by omega
      obtain ⟨sb, so, rfl, hcx⟩ := HXC.out (by omega)
      obtain ⟨y, hy⟩ : ∃ y, y = xs.getD t 0 := ⟨_, rfl⟩
      have yt := hcx i0 HB3.out t hlt
      rw [← hy] at yt
      have HY := Lib.hid hy
      have hC : (fun W => W.cell? ⟨q, 1, none⟩ = some (.slice oa n oc) ∧ W.cell? ⟨sb, so + t, none⟩ = some (.int .i64 y)) i0.drew := ⟨f1, yt⟩
      clear hy yt hcx
      go_upto_region 7 with (fail)
      refine Lim.regC' (fun W => W.cell? ⟨q, 1, none⟩ = some (.slice oa n oc) ∧ W.cell? ⟨sb, so + t, none⟩ = some (.int .i64 y)) [] #[false, false, false, false, false, false, false, false, false] (by kernel_rfl) rfl ?_
      refine Lim.stepR 0 (fun _ => trivial) rfl (by kernel_rfl) (fun _ _ _ _ h => h) hC rfl ?_; apply Exists.intro; refine ⟨?_, ?_⟩
      ·rintro w ⟨r1, r2⟩; go_simp; try with_reducible rfl
      simp only [Act.put, List.setIfInBounds_toArray, List.set_cons_succ, List.set_cons_zero]
      refine Lim.stepR 1 (fun _ => trivial) rfl (by kernel_rfl) (fun _ _ _ _ h => h) hC rfl ?_; apply Exists.intro; refine ⟨?_, ?_⟩
      ·rintro w ⟨r1, r2⟩; go_simp; try with_reducible rfl
      simp only [Act.put, List.setIfInBounds_toArray, List.set_cons_succ, List.set_cons_zero]
      refine Lim.stepR 2 (fun _ => trivial) rfl (by kernel_rfl) (fun _ _ _ _ h => h) hC rfl ?_; apply Exists.intro; refine ⟨?_, ?_⟩
      ·rintro w ⟨r1, r2⟩; go_simp; try with_reducible rfl
      simp only [Act.put, List.setIfInBounds_toArray, List.set_cons_succ, List.set_cons_zero]
      refine Lim.stepR 3 (fun _ => trivial) rfl (by kernel_rfl) (fun _ _ _ _ h => h) hC rfl ?_; apply Exists.intro; refine ⟨?_, ?_⟩
      ·rintro w ⟨r1, r2⟩; go_simp; try with_reducible rfl
      simp only [Act.put, List.setIfInBounds_toArray, List.set_cons_succ, List.set_cons_zero]
      refine Lim.stepR 4 (fun _ => trivial) rfl (by kernel_rfl) (fun _ _ _ _ h => h) hC rfl ?_; apply Exists.intro; refine ⟨?_, ?_⟩
      ·rintro w ⟨r1, r2⟩; go_simp; try with_reducible rfl
      simp only [Act.put, List.setIfInBounds_toArray, List.set_cons_succ, List.set_cons_zero]
      refine Lim.stepR 5 (fun _ => trivial) rfl (by kernel_rfl) (fun _ _ _ _ h => h) hC rfl ?_; apply Exists.intro; refine ⟨?_, ?_⟩
      ·rintro w ⟨r1, r2⟩; go_simp; try with_reducible rfl
      simp only [Act.put, List.setIfInBounds_toArray, List.set_cons_succ, List.set_cons_zero]
      refine Lim.stepR 6 (fun _ => trivial) rfl (by kernel_rfl) (fun _ _ _ _ h => h) hC rfl ?_; apply Exists.intro; refine ⟨?_, ?_⟩
      ·rintro w ⟨r1, r2⟩; go_simp; try with_reducible rfl
      simp only [Act.put, List.setIfInBounds_toArray, List.set_cons_succ, List.set_cons_zero]
      refine Lim.stepR 7 (fun _ => trivial) rfl (by kernel_rfl) (fun _ _ _ _ h => h) hC rfl ?_; apply Exists.intro; refine ⟨?_, ?_⟩
      ·rintro w ⟨r1, r2⟩; go_simp; try with_reducible rfl
      simp only [Act.put, List.setIfInBounds_toArray, List.set_cons_succ, List.set_cons_zero]
      refine Lim.stepE 8 (fun _ => trivial) rfl (by kernel_rfl) rfl (fun K hK => ?_)   -- E call
      go_simp
      refine ⟨rfl, (callsIn_wide.2 (outside_any _ _ _ _)).mono ?_⟩
      rintro e w9 ⟨rfl, rfl⟩
      refine hK _ _ hC ?_
      simp only [Act.put, List.setIfInBounds_toArray, List.set_cons_succ, List.set_cons_zero]
      refine Lim.stepD (by kernel_rfl) ?_
      clear hC
      cases hz : inB y 0 ((n : Int) - 1) with
      | false =>
       have HN : Hid (¬ ∀ x ∈ xs, 0 ≤ x ∧ x < n) := Lib.hid (fun h => by
        have h1 := h y (by rw [HY.out, List.getD_eq_getElem?_getD, List.getElem?_eq_getElem (by rw [← HNX.out]; exact hlt)]; exact List.getElem_mem _)
        rw [inB_true h1.1 (by omega)] at hz; cases hz)
       clear hz
       go_wp2_with fail
       go_ret2
       exact HFA.out _ HB3.out.drew HN.out
      | true =>
       have HZ := Lib.hid (inB_iff.1 hz)
       clear hz
       go_wp2_with fail
       go_roundw
       case rel =>
        refine ⟨t + 1, by omega, by go_num, Lib.hid ⟨HJB.out.drew, fun s hs => ?_⟩⟩
        by_cases e : s = t
        ·rw [e, ← HY.out]; have := HZ.out; omega
        ·exact hI.out s (by omega)
       case measure => simp [intOf]; omega
     ·have ht' : ¬ (t : Int) < N := by omega
      obtain rfl : N = t := by omega
      have HIN : Hid (∀ x ∈ xs, 0 ≤ x ∧ x < n) := Lib.hid (fun x hx => by
       obtain ⟨s, hs, rfl⟩ := List.mem_iff_getElem.1 hx
       have := hI.out s (by rw [HNX.out]; exact hs)
       rwa [List.getD_eq_getElem?_getD, List.getElem?_eq_getElem hs] at this)
      clear hI
      obtain ⟨L, hL⟩ : ∃ L, L = xs.map Int.toNat := ⟨_, rfl⟩
      have HLX : Hid (∀ s, s < N → ∃ x : Nat, L[s]? = some x ∧ xs.getD s 0 = x ∧ x < n) := Lib.hid (fun s hs => by
       have hs' : s < xs.length := by rw [← HNX.out]; exact hs
       have h := HIN.out _ (List.getElem_mem hs')
       refine ⟨xs[s].toNat, by rw [hL, List.getElem?_map, List.getElem?_eq_getElem hs']; rfl, ?_, by omega⟩
       rw [List.getD_eq_getElem?_getD, List.getElem?_eq_getElem hs']
       show xs[s] = _
       omega)
      have HLN : Hid (L.length = N ∧ ∀ p ∈ L, p < m.n) := Lib.hid ⟨by rw [hL, List.length_map, HNX.out], fun p hp => by
       rw [hL] at hp
       obtain ⟨x, hx, rfl⟩ := List.mem_map.1 hp
       have := HIN.out x hx
       have e : (m.n : Nat) = n := HNN.out
       omega⟩
      have HF2 : Hid (∀ (z : Bool) W, Below w.heap.size w W → (z = true ↔ Leads m r i' j' L) → LeAns m.wd os i' j' xs w (.returned (.tuple #[.bool z, .int .i64 0])) W) := Lib.hid (fun z W h1 h2 => HFZ.out z W h1 HIN.out (by rw [hL] at h2; exact h2))
      have HLI : Hid (Leads m r i' j' L ↔ goesB m L = true ∧ r (L.getD 0 0) = i' ∧ rimB m (L.getD (L.length - 1) 0) = true ∧ ∀ p ∈ L, r p ≠ j') := Lib.hid (leads_iff HLN.out.2)
      clear hL
      have HRG := HRG2.out i0 HB3.out
      go_wp2_with fail
      refine HRG.mono ?_
      rintro e w4 ⟨hb4, h4⟩
      clear HRG
      replace f0 := hb4.on f0
      replace f1 := hb4.on f1
      have HP := Lib.hid (HB3.out.trans (hb4.mono HB3.out.size))
      obtain ⟨lv, rfl, hlv⟩ : ∃ lv, e = .returned (.tuple #[lv, .int .i64 0]) ∧ RS w4.heap.size w4 lv n (ints (regL r n)) := by
       rcases h4 with ⟨h5, -⟩ | ⟨-, v4, r4, k4, rfl, hr4, hk4, hv4⟩
       ·exact absurd HE0.out h5
       ·refine ⟨v4, rfl, ?_⟩
        have e1 : regL r n = regL r4 n := List.map_congr_left (fun p hp => by
         have hp := List.mem_range.1 hp
         have := HRU.out r4 hr4 p hp
         rw [this])
        rw [e1]
        have e2 : n = os.length := HOS.out
        rw [e2]; exact hv4
      obtain ⟨gl, ol, cl, rfl, hgl, hcl⟩ := reg_cell hlv (by have := HM.out.1.n0; have e : m.n = n := HNN.out; omega)
      have HLC : Hid (∀ W, Below w4.heap.size w4 W → ∀ p, p < n → W.cell? ⟨gl, ol + p, none⟩ = some (.int .i64 (r p : Nat))) := Lib.hid fun W hW p hp => cell_below hW (hcl p hp) hgl
      clear hb4 h4 hlv hgl hcl
      by_cases hN0 : N = 0
      ·subst hN0
       have HL0 : Hid (¬ Leads m r i' j' L) := Lib.hid (fun h => by
        have h1 := (HLI.out.1 h).1
        have h2 := HLN.out.1
        unfold goesB at h1
        rw [h2] at h1; simp at h1)
       obtain ⟨wr0, rfl⟩ : ∃ x, x = w4 := ⟨_, rfl⟩
       go_upto_region 10 with (fail)
       have hC : (fun W => W.cell? ⟨q, 1, none⟩ = some (.slice oa n oc)) wr0.drew := f1
       refine Lim.regC' (fun W => W.cell? ⟨q, 1, none⟩ = some (.slice oa n oc)) [] #[false, false, false, false, false, false, false, false, false, false, false, false, false, false, false, false, false, false, false, false, false, false, false, false] (by kernel_rfl) rfl ?_
       refine Lim.stepR 0 (fun _ => trivial) rfl (by kernel_rfl) (fun _ _ _ _ h => h) hC rfl ?_; apply Exists.intro; refine ⟨?_, ?_⟩
       ·rintro w r1; go_simp; try with_reducible rfl
       simp only [Act.put, List.setIfInBounds_toArray, List.set_cons_succ, List.set_cons_zero]
       refine Lim.stepR 1 (fun _ => trivial) rfl (by kernel_rfl) (fun _ _ _ _ h => h) hC rfl ?_; apply Exists.intro; refine ⟨?_, ?_⟩
       ·rintro w r1; go_simp; try with_reducible rfl
       simp only [Act.put, List.setIfInBounds_toArray, List.set_cons_succ, List.set_cons_zero]
       refine Lim.stepR 2 (fun _ => trivial) rfl (by kernel_rfl) (fun _ _ _ _ h => h) hC rfl ?_; apply Exists.intro; refine ⟨?_, ?_⟩
       ·rintro w r1; go_simp; try with_reducible rfl
       simp only [Act.put, List.setIfInBounds_toArray, List.set_cons_succ, List.set_cons_zero]
       refine Lim.stepR 3 (fun _ => trivial) rfl (by kernel_rfl) (fun _ _ _ _ h => h) hC rfl ?_; apply Exists.intro; refine ⟨?_, ?_⟩
       ·rintro w r1; go_simp; try with_reducible rfl
       simp only [Act.put, List.setIfInBounds_toArray, List.set_cons_succ, List.set_cons_zero]
       refine Lim.stepS 4 (fun _ => trivial) rfl (by kernel_rfl) (fun _ _ _ _ h => h) hC rfl ?_
       simp only [Act.put, List.setIfInBounds_toArray, List.set_cons_succ, List.set_cons_zero]
       refine Lim.stepS 5 (fun _ => trivial) rfl (by kernel_rfl) (fun _ _ _ _ h => h) hC rfl ?_
       simp only [Act.put, List.setIfInBounds_toArray, List.set_cons_succ, List.set_cons_zero]
       refine Lim.stepS 6 (fun _ => trivial) rfl (by kernel_rfl) (fun _ _ _ _ h => h) hC rfl ?_
       simp only [Act.put, List.setIfInBounds_toArray, List.set_cons_succ, List.set_cons_zero]
       refine Lim.stepS 7 (fun _ => trivial) rfl (by kernel_rfl) (fun _ _ _ _ h => h) hC rfl ?_
       simp only [Act.put, List.setIfInBounds_toArray, List.set_cons_succ, List.set_cons_zero]
       refine Lim.stepS 8 (fun _ => trivial) rfl (by kernel_rfl) (fun _ _ _ _ h => h) hC rfl ?_
       simp only [Act.put, List.setIfInBounds_toArray, List.set_cons_succ, List.set_cons_zero]
       refine Lim.stepS 9 (fun _ => trivial) rfl (by kernel_rfl) (fun _ _ _ _ h => h) hC rfl ?_
       simp only [Act.put, List.setIfInBounds_toArray, List.set_cons_succ, List.set_cons_zero]
       refine Lim.stepS 10 (fun _ => trivial) rfl (by kernel_rfl) (fun _ _ _ _ h => h) hC rfl ?_
       simp only [Act.put, List.setIfInBounds_toArray, List.set_cons_succ, List.set_cons_zero]
       refine Lim.stepS 11 (fun _ => trivial) rfl (by kernel_rfl) (fun _ _ _ _ h => h) hC rfl ?_
       simp only [Act.put, List.setIfInBounds_toArray, List.set_cons_succ, List.set_cons_zero]
       refine Lim.stepR 12 (fun _ => trivial) rfl (by kernel_rfl) (fun _ _ _ _ h => h) hC rfl ?_; apply Exists.intro; refine ⟨?_, ?_⟩
       ·rintro w r1; go_simp; try with_reducible rfl
       simp only [Act.put, List.setIfInBounds_toArray, List.set_cons_succ, List.set_cons_zero]
       refine Lim.stepR 13 (fun _ => trivial) rfl (by kernel_rfl) (fun _ _ _ _ h => h) hC rfl ?_; apply Exists.intro; refine ⟨?_, ?_⟩
       ·rintro w r1; go_simp; try with_reducible rfl
       simp only [Act.put, List.setIfInBounds_toArray, List.set_cons_succ, List.set_cons_zero]
       refine Lim.stepS 14 (fun _ => trivial) rfl (by kernel_rfl) (fun _ _ _ _ h => h) hC rfl ?_
       simp only [Act.put, List.setIfInBounds_toArray, List.set_cons_succ, List.set_cons_zero]
       refine Lim.stepS 15 (fun _ => trivial) rfl (by kernel_rfl) (fun _ _ _ _ h => h) hC rfl ?_
       simp only [Act.put, List.setIfInBounds_toArray, List.set_cons_succ, List.set_cons_zero]
       refine Lim.stepS 16 (fun _ => trivial) rfl (by kernel_rfl) (fun _ _ _ _ h => h) hC rfl ?_
       simp only [Act.put, List.setIfInBounds_toArray, List.set_cons_succ, List.set_cons_zero]
       refine Lim.stepS 17 (fun _ => trivial) rfl (by kernel_rfl) (fun _ _ _ _ h => h) hC rfl ?_
       simp only [Act.put, List.setIfInBounds_toArray, List.set_cons_succ, List.set_cons_zero]
       refine Lim.stepS 18 (fun _ => trivial) rfl (by kernel_rfl) (fun _ _ _ _ h => h) hC rfl ?_
       simp only [Act.put, List.setIfInBounds_toArray, List.set_cons_succ, List.set_cons_zero]
       refine Lim.stepS 19 (fun _ => trivial) rfl (by kernel_rfl) (fun _ _ _ _ h => h) hC rfl ?_
       simp only [Act.put, List.setIfInBounds_toArray, List.set_cons_succ, List.set_cons_zero]
       refine Lim.stepS 20 (fun _ => trivial) rfl (by kernel_rfl) (fun _ _ _ _ h => h) hC rfl ?_
       simp only [Act.put, List.setIfInBounds_toArray, List.set_cons_succ, List.set_cons_zero]
       refine Lim.stepS 21 (fun _ => trivial) rfl (by kernel_rfl) (fun _ _ _ _ h => h) hC rfl ?_
       simp only [Act.put, List.setIfInBounds_toArray, List.set_cons_succ, List.set_cons_zero]
       refine Lim.stepS 22 (fun _ => trivial) rfl (by kernel_rfl) (fun _ _ _ _ h => h) hC rfl ?_
       simp only [Act.put, List.setIfInBounds_toArray, List.set_cons_succ, List.set_cons_zero]
       refine Lim.stepR 23 (fun _ => trivial) rfl (by kernel_rfl) (fun _ _ _ _ h => h) hC rfl ?_; apply Exists.intro; refine ⟨?_, ?_⟩
       ·rintro w r1; go_simp; try with_reducible rfl
       simp only [Act.put, List.setIfInBounds_toArray, List.set_cons_succ, List.set_cons_zero]
       refine Lim.stepD (by kernel_rfl) ?_
       clear hC
       go_wp2_with fail
       go_ret2
       exact HF2.out false _ HP.out.drew ⟨fun h => (by cases h), fun h => absurd h HL0.out⟩
      ·have hN1 : 0 < N := by omega
       have d0 : ((N : Int) == 0) = false := by rw [beq_eq_false_iff_ne]; omega
       have d0' : (N == 0) = false := by rw [beq_eq_false_iff_ne]; omega
       obtain ⟨sb, so, rfl, hcx⟩ := HXC.out hN1
       have HCX := Lib.hid hcx
       clear hcx
       obtain ⟨l1, hl1⟩ : ∃ l1, l1 = N - 1 := ⟨_, rfl⟩
       have hl1t : l1 < N := by omega
       have hl64 : (l1 : Int) < N := by omega
       have hw2 : IntKind.i64.wrap ((N : Int) - 1) = (l1 : Int) := by rw [IntWalk.i64_in _ (by omega)]; omega
       obtain ⟨x0, hx0, hx0', hx0n⟩ := HLX.out 0 hN1
       obtain ⟨xl, hxl, hxl', hxln⟩ := HLX.out l1 hl1t
       have c0 := HCX.out w4 HP.out 0 hN1
       have cl1 := HCX.out w4 HP.out l1 hl1t
       rw [hx0', Nat.add_zero] at c0
       rw [hxl'] at cl1
       obtain ⟨u0, hu0⟩ : ∃ u, u = r x0 := ⟨_, rfl⟩
       have cu := HLC.out w4 (Below.refl _ _) x0 hx0n
       rw [← hu0] at cu
       obtain ⟨z1, hz1⟩ : ∃ z, z = rimB m xl := ⟨_, rfl⟩
       have HED : Hid (∀ W, Calls Try.prog 73 #[.agg #[.int .i64 m.wd, .slice oa n oc], .int .i64 xl] W fun e w' => e = .returned (.bool z1) ∧ Below W.heap.size W w') := Lib.hid fun W => by
        rw [hz1]
        have e : m.n = n := HNN.out
        rw [← e]
        exact redge_any HM.out.1 (by rw [e]; exact hxln)
       have HG : Hid (L.getD 0 0 = x0 ∧ L.getD (L.length - 1) 0 = xl) := Lib.hid ⟨by rw [List.getD_eq_getElem?_getD, hx0]; rfl, by rw [HLN.out.1, ← hl1, List.getD_eq_getElem?_getD, hxl]; rfl⟩
       have HU := Lib.hid (And.intro hu0 hz1)
       obtain ⟨wr0, rfl⟩ : ∃ x, x = w4 := ⟨_, rfl⟩
       have hC : (fun W => W.cell? ⟨q, 0, none⟩ = some (.int .i64 m.wd) ∧ W.cell? ⟨q, 1, none⟩ = some (.slice oa n oc) ∧ W.cell? ⟨sb, so, none⟩ = some (.int .i64 x0) ∧ W.cell? ⟨sb, so + l1, none⟩ = some (.int .i64 xl) ∧ W.cell? ⟨gl, ol + x0, none⟩ = some (.int .i64 u0)) wr0.drew := ⟨f0, f1, c0, cl1, cu⟩
       clear hx0 hx0' hxl hxl' c0 cl1 cu hu0 hz1 hl1
       go_upto_region 10 with (fail)
       by_cases hui : u0 = i'
       ·have d1 : ((u0 : Int) != i') = false := by simp [hui]
        have d1' : (u0 != i') = false := by simp [hui]
        have HUI := Lib.hid hui
        clear hui
        refine Lim.regC' (fun W => W.cell? ⟨q, 0, none⟩ = some (.int .i64 m.wd) ∧ W.cell? ⟨q, 1, none⟩ = some (.slice oa n oc) ∧ W.cell? ⟨sb, so, none⟩ = some (.int .i64 x0) ∧ W.cell? ⟨sb, so + l1, none⟩ = some (.int .i64 xl) ∧ W.cell? ⟨gl, ol + x0, none⟩ = some (.int .i64 u0)) [] #[false, false, false, false, false, false, false, false, false, false, false, false, false, false, false, false, false, false, false, false, false, false, false, false] (by kernel_rfl) rfl ?_
        refine Lim.stepR 0 (fun _ => trivial) rfl (by kernel_rfl) (fun _ _ _ _ h => h) hC rfl ?_; apply Exists.intro; refine ⟨?_, ?_⟩
        ·rintro w ⟨r1, r2, r3, r4, r5⟩; go_simp; try with_reducible rfl
        simp only [Act.put, List.setIfInBounds_toArray, List.set_cons_succ, List.set_cons_zero]
        refine Lim.stepR 1 (fun _ => trivial) rfl (by kernel_rfl) (fun _ _ _ _ h => h) hC rfl ?_; apply Exists.intro; refine ⟨?_, ?_⟩
        ·rintro w ⟨r1, r2, r3, r4, r5⟩; go_simp; try with_reducible rfl
        simp only [Act.put, List.setIfInBounds_toArray, List.set_cons_succ, List.set_cons_zero]
        refine Lim.stepR 2 (fun _ => trivial) rfl (by kernel_rfl) (fun _ _ _ _ h => h) hC rfl ?_; apply Exists.intro; refine ⟨?_, ?_⟩
        ·rintro w ⟨r1, r2, r3, r4, r5⟩; go_simp; try with_reducible rfl
        simp only [Act.put, List.setIfInBounds_toArray, List.set_cons_succ, List.set_cons_zero]
        refine Lim.stepR 3 (fun _ => trivial) rfl (by kernel_rfl) (fun _ _ _ _ h => h) hC rfl ?_; apply Exists.intro; refine ⟨?_, ?_⟩
        ·rintro w ⟨r1, r2, r3, r4, r5⟩; go_simp; try with_reducible rfl
        simp only [Act.put, List.setIfInBounds_toArray, List.set_cons_succ, List.set_cons_zero]
        refine Lim.stepR 4 (fun _ => trivial) rfl (by kernel_rfl) (fun _ _ _ _ h => h) hC rfl ?_; apply Exists.intro; refine ⟨?_, ?_⟩
        ·rintro w ⟨r1, r2, r3, r4, r5⟩; go_simp; try with_reducible rfl
        simp only [Act.put, List.setIfInBounds_toArray, List.set_cons_succ, List.set_cons_zero]
        refine Lim.stepR 5 (fun _ => trivial) rfl (by kernel_rfl) (fun _ _ _ _ h => h) hC rfl ?_; apply Exists.intro; refine ⟨?_, ?_⟩
        ·rintro w ⟨r1, r2, r3, r4, r5⟩; go_simp; try with_reducible rfl
        simp only [Act.put, List.setIfInBounds_toArray, List.set_cons_succ, List.set_cons_zero]
        refine Lim.stepR 6 (fun _ => trivial) rfl (by kernel_rfl) (fun _ _ _ _ h => h) hC rfl ?_; apply Exists.intro; refine ⟨?_, ?_⟩
        ·rintro w ⟨r1, r2, r3, r4, r5⟩; go_simp; try with_reducible rfl
        simp only [Act.put, List.setIfInBounds_toArray, List.set_cons_succ, List.set_cons_zero]
        refine Lim.stepR 7 (fun _ => trivial) rfl (by kernel_rfl) (fun _ _ _ _ h => h) hC rfl ?_; apply Exists.intro; refine ⟨?_, ?_⟩
        ·rintro w ⟨r1, r2, r3, r4, r5⟩; go_simp; try with_reducible rfl
        simp only [Act.put, List.setIfInBounds_toArray, List.set_cons_succ, List.set_cons_zero]
        refine Lim.stepR 8 (fun _ => trivial) rfl (by kernel_rfl) (fun _ _ _ _ h => h) hC rfl ?_; apply Exists.intro; refine ⟨?_, ?_⟩
        ·rintro w ⟨r1, r2, r3, r4, r5⟩; go_simp; try with_reducible rfl
        simp only [Act.put, List.setIfInBounds_toArray, List.set_cons_succ, List.set_cons_zero]
        refine Lim.stepR 9 (fun _ => trivial) rfl (by kernel_rfl) (fun _ _ _ _ h => h) hC rfl ?_; apply Exists.intro; refine ⟨?_, ?_⟩
        ·rintro w ⟨r1, r2, r3, r4, r5⟩; go_simp; try with_reducible rfl
        simp only [Act.put, List.setIfInBounds_toArray, List.set_cons_succ, List.set_cons_zero]
        refine Lim.stepR 10 (fun _ => trivial) rfl (by kernel_rfl) (fun _ _ _ _ h => h) hC rfl ?_; apply Exists.intro; refine ⟨?_, ?_⟩
        ·rintro w ⟨r1, r2, r3, r4, r5⟩; go_simp; try with_reducible rfl
        simp only [Act.put, List.setIfInBounds_toArray, List.set_cons_succ, List.set_cons_zero]
        refine Lim.stepR 11 (fun _ => trivial) rfl (by kernel_rfl) (fun _ _ _ _ h => h) hC rfl ?_; apply Exists.intro; refine ⟨?_, ?_⟩
        ·rintro w ⟨r1, r2, r3, r4, r5⟩; go_simp; try with_reducible rfl
        simp only [Act.put, List.setIfInBounds_toArray, List.set_cons_succ, List.set_cons_zero]
        refine Lim.stepR 12 (fun _ => trivial) rfl (by kernel_rfl) (fun _ _ _ _ h => h) hC rfl ?_; apply Exists.intro; refine ⟨?_, ?_⟩
        ·rintro w ⟨r1, r2, r3, r4, r5⟩; go_simp; try with_reducible rfl
        simp only [Act.put, List.setIfInBounds_toArray, List.set_cons_succ, List.set_cons_zero]
        refine Lim.stepR 13 (fun _ => trivial) rfl (by kernel_rfl) (fun _ _ _ _ h => h) hC rfl ?_; apply Exists.intro; refine ⟨?_, ?_⟩
        ·rintro w ⟨r1, r2, r3, r4, r5⟩; go_simp; try with_reducible rfl
        simp only [Act.put, List.setIfInBounds_toArray, List.set_cons_succ, List.set_cons_zero]
        refine Lim.stepR 14 (fun _ => trivial) rfl (by kernel_rfl) (fun _ _ _ _ h => h) hC rfl ?_; apply Exists.intro; refine ⟨?_, ?_⟩
        ·rintro w ⟨r1, r2, r3, r4, r5⟩; go_simp; try with_reducible rfl
        simp only [Act.put, List.setIfInBounds_toArray, List.set_cons_succ, List.set_cons_zero]
        refine Lim.stepR 15 (fun _ => trivial) rfl (by kernel_rfl) (fun _ _ _ _ h => h) hC rfl ?_; apply Exists.intro; refine ⟨?_, ?_⟩
        ·rintro w ⟨r1, r2, r3, r4, r5⟩; go_simp; try with_reducible rfl
        simp only [Act.put, List.setIfInBounds_toArray, List.set_cons_succ, List.set_cons_zero]
        refine Lim.stepR 16 (fun _ => trivial) rfl (by kernel_rfl) (fun _ _ _ _ h => h) hC rfl ?_; apply Exists.intro; refine ⟨?_, ?_⟩
        ·rintro w ⟨r1, r2, r3, r4, r5⟩; go_simp; try with_reducible rfl
        simp only [Act.put, List.setIfInBounds_toArray, List.set_cons_succ, List.set_cons_zero]
        refine Lim.stepR 17 (fun _ => trivial) rfl (by kernel_rfl) (fun _ _ _ _ h => h) hC rfl ?_; apply Exists.intro; refine ⟨?_, ?_⟩
        ·rintro w ⟨r1, r2, r3, r4, r5⟩; go_simp; try with_reducible rfl
        simp only [Act.put, List.setIfInBounds_toArray, List.set_cons_succ, List.set_cons_zero]
        refine Lim.stepR 18 (fun _ => trivial) rfl (by kernel_rfl) (fun _ _ _ _ h => h) hC rfl ?_; apply Exists.intro; refine ⟨?_, ?_⟩
        ·rintro w ⟨r1, r2, r3, r4, r5⟩; go_simp; try with_reducible rfl
        simp only [Act.put, List.setIfInBounds_toArray, List.set_cons_succ, List.set_cons_zero]
        refine Lim.stepR 19 (fun _ => trivial) rfl (by kernel_rfl) (fun _ _ _ _ h => h) hC rfl ?_; apply Exists.intro; refine ⟨?_, ?_⟩
        ·rintro w ⟨r1, r2, r3, r4, r5⟩; go_simp; try with_reducible rfl
        simp only [Act.put, List.setIfInBounds_toArray, List.set_cons_succ, List.set_cons_zero]
        refine Lim.stepR 20 (fun _ => trivial) rfl (by kernel_rfl) (fun _ _ _ _ h => h) hC rfl ?_; apply Exists.intro; refine ⟨?_, ?_⟩
        ·rintro w ⟨r1, r2, r3, r4, r5⟩; go_simp; try with_reducible rfl
        simp only [Act.put, List.setIfInBounds_toArray, List.set_cons_succ, List.set_cons_zero]
        refine Lim.stepE 21 (fun _ => trivial) rfl (by kernel_rfl) rfl (fun K hK => ?_)   -- E call
        go_simp
        refine ⟨rfl, (callsIn_wide.2 (HED.out _)).mono ?_⟩
        rintro e w9 ⟨rfl, hb9⟩
        have HP9 := Lib.hid (HP.out.trans (((Below.refl _ wr0).drew.trans hb9).mono HP.out.size))
        have hC9 : (fun W => W.cell? ⟨q, 0, none⟩ = some (.int .i64 m.wd) ∧ W.cell? ⟨q, 1, none⟩ = some (.slice oa n oc) ∧ W.cell? ⟨sb, so, none⟩ = some (.int .i64 x0) ∧ W.cell? ⟨sb, so + l1, none⟩ = some (.int .i64 xl) ∧ W.cell? ⟨gl, ol + x0, none⟩ = some (.int .i64 u0)) w9 := ⟨hb9.on hC.1, hb9.on hC.2.1, hb9.on hC.2.2.1, hb9.on hC.2.2.2.1, hb9.on hC.2.2.2.2⟩
        refine hK _ _ hC9 ?_
        have hb9c := hb9
        clear hb9
        simp only [Act.put, List.setIfInBounds_toArray, List.set_cons_succ, List.set_cons_zero]
        have HB49 := Lib.hid ((Below.refl wr0.heap.size wr0).drew.trans hb9c)
        refine Lim.stepR 22 (fun _ => trivial) rfl (by kernel_rfl) (fun _ _ _ _ h => h) hC9 rfl ?_; apply Exists.intro; refine ⟨?_, ?_⟩
        ·rintro w ⟨r1, r2, r3, r4, r5⟩; go_simp; try with_reducible rfl
        simp only [Act.put, List.setIfInBounds_toArray, List.set_cons_succ, List.set_cons_zero]
        refine Lim.stepR 23 (fun _ => trivial) rfl (by kernel_rfl) (fun _ _ _ _ h => h) hC9 rfl ?_; apply Exists.intro; refine ⟨?_, ?_⟩
        ·rintro w ⟨r1, r2, r3, r4, r5⟩; go_simp; try with_reducible rfl
        simp only [Act.put, List.setIfInBounds_toArray, List.set_cons_succ, List.set_cons_zero]
        refine Lim.stepD (by kernel_rfl) ?_
        obtain ⟨f0, f1, -⟩ := hC9
        clear hC
        cases z1 with
        | false =>
         go_wp2_with fail
         go_ret2
         exact HF2.out false _ HP9.out ⟨fun h => (by cases h), fun h => by
          have := (HLI.out.1 h).2.2.1
          rw [HG.out.2, ← HU.out.2] at this; cases this⟩
        | true =>
         clear d1 d1' hw2 hl64 hl1t hx0n hxln
         go_wp2_with fail
         go_loopw [14] (fun v wr => ∃ s : Nat, s ≤ N ∧ v = .int .i64 s ∧ Hid (Below w9.heap.size w9 wr ∧ (∀ a, a < s → r (L.getD a 0) ≠ j') ∧ ∀ a, a + 1 < s → nb m (L.getD a 0) (L.getD (a + 1) 0))) (fun v _ => N - (intOf v).toNat)
         case atStart => exact ⟨0, Nat.zero_le _, rfl, Lib.hid ⟨Below.refl _ _, fun a ha => by omega, fun a ha => by omega⟩⟩
         case round =>
          obtain ⟨t, hs, rfl, hI⟩ := hrel
          obtain ⟨w9', hw9'⟩ : ∃ x, x = w9 := ⟨_, rfl⟩
          have HW9 := Lib.hid hw9'
          clear hw9'
          have hs64 : (t : Int) ≤ 100000 := by omega
          by_cases hlt : t < N
          ·have hlt64 : (t : Int) < N := by omega
           obtain ⟨xt, hxt, hxt', hxtn⟩ := HLX.out t hlt
           have HB4 := Lib.hid (HP9.out.trans (hI.out.1.mono HP9.out.size))
           have f0 := hI.out.1.on f0
           have f1 := hI.out.1.on f1
           have ct := HCX.out wr HB4.out t hlt
           rw [hxt'] at ct
           obtain ⟨ut, hut⟩ : ∃ u, u = r xt := ⟨_, rfl⟩
           have cu := HLC.out wr (HB49.out.trans (hI.out.1.mono HB49.out.size)) xt hxtn
           rw [← hut] at cu
           have HT : Hid (L.getD t 0 = xt ∧ ut = r xt ∧ xt ∈ L) := Lib.hid ⟨by rw [List.getD_eq_getElem?_getD, hxt]; rfl, hut, List.mem_of_getElem? hxt⟩
           clear hxt hxt' hut
           obtain ⟨wr0, hwr0⟩ : ∃ x, x = wr := ⟨_, rfl⟩
           subst hwr0
           by_cases huj : ut = j'
           ·have d1 : ((ut : Int) == j') = true := by simp [huj]
            have d1' : (ut == j') = true := by simp [huj]
            have HUJ := Lib.hid huj
            clear huj
            go_upto_region 15 with (fail)
            have hC : (fun W => W.cell? ⟨q, 0, none⟩ = some (.int .i64 m.wd) ∧ W.cell? ⟨q, 1, none⟩ = some (.slice oa n oc) ∧ W.cell? ⟨sb, so + t, none⟩ = some (.int .i64 xt) ∧ W.cell? ⟨gl, ol + xt, none⟩ = some (.int .i64 ut)) wr0.drew := ⟨f0, f1, ct, cu⟩
            refine Lim.regC' (fun W => W.cell? ⟨q, 0, none⟩ = some (.int .i64 m.wd) ∧ W.cell? ⟨q, 1, none⟩ = some (.slice oa n oc) ∧ W.cell? ⟨sb, so + t, none⟩ = some (.int .i64 xt) ∧ W.cell? ⟨gl, ol + xt, none⟩ = some (.int .i64 ut)) [] #[false, false, false, false, false, false, false, false, false, false, false, false, false, false, false, false, false, false, false, false, false, false, false, false, false, false, false] (by kernel_rfl) rfl ?_
            refine Lim.stepR 0 (fun _ => trivial) rfl (by kernel_rfl) (fun _ _ _ _ h => h) hC rfl ?_; apply Exists.intro; refine ⟨?_, ?_⟩
            ·rintro w ⟨r1, r2, r3, r4⟩; go_simp; try with_reducible rfl
            simp only [Act.put, List.setIfInBounds_toArray, List.set_cons_succ, List.set_cons_zero]
            refine Lim.stepR 1 (fun _ => trivial) rfl (by kernel_rfl) (fun _ _ _ _ h => h) hC rfl ?_; apply Exists.intro; refine ⟨?_, ?_⟩
            ·rintro w ⟨r1, r2, r3, r4⟩; go_simp; try with_reducible rfl
            simp only [Act.put, List.setIfInBounds_toArray, List.set_cons_succ, List.set_cons_zero]
            refine Lim.stepR 2 (fun _ => trivial) rfl (by kernel_rfl) (fun _ _ _ _ h => h) hC rfl ?_; apply Exists.intro; refine ⟨?_, ?_⟩
            ·rintro w ⟨r1, r2, r3, r4⟩; go_simp; try with_reducible rfl
            simp only [Act.put, List.setIfInBounds_toArray, List.set_cons_succ, List.set_cons_zero]
            refine Lim.stepR 3 (fun _ => trivial) rfl (by kernel_rfl) (fun _ _ _ _ h => h) hC rfl ?_; apply Exists.intro; refine ⟨?_, ?_⟩
            ·rintro w ⟨r1, r2, r3, r4⟩; go_simp; try with_reducible rfl
            simp only [Act.put, List.setIfInBounds_toArray, List.set_cons_succ, List.set_cons_zero]
            refine Lim.stepR 4 (fun _ => trivial) rfl (by kernel_rfl) (fun _ _ _ _ h => h) hC rfl ?_; apply Exists.intro; refine ⟨?_, ?_⟩
            ·rintro w ⟨r1, r2, r3, r4⟩; go_simp; try with_reducible rfl
            simp only [Act.put, List.setIfInBounds_toArray, List.set_cons_succ, List.set_cons_zero]
            refine Lim.stepR 5 (fun _ => trivial) rfl (by kernel_rfl) (fun _ _ _ _ h => h) hC rfl ?_; apply Exists.intro; refine ⟨?_, ?_⟩
            ·rintro w ⟨r1, r2, r3, r4⟩; go_simp; try with_reducible rfl
            simp only [Act.put, List.setIfInBounds_toArray, List.set_cons_succ, List.set_cons_zero]
            refine Lim.stepR 6 (fun _ => trivial) rfl (by kernel_rfl) (fun _ _ _ _ h => h) hC rfl ?_; apply Exists.intro; refine ⟨?_, ?_⟩
            ·rintro w ⟨r1, r2, r3, r4⟩; go_simp; try with_reducible rfl
            simp only [Act.put, List.setIfInBounds_toArray, List.set_cons_succ, List.set_cons_zero]
            refine Lim.stepR 7 (fun _ => trivial) rfl (by kernel_rfl) (fun _ _ _ _ h => h) hC rfl ?_; apply Exists.intro; refine ⟨?_, ?_⟩
            ·rintro w ⟨r1, r2, r3, r4⟩; go_simp; try with_reducible rfl
            simp only [Act.put, List.setIfInBounds_toArray, List.set_cons_succ, List.set_cons_zero]
            refine Lim.stepR 8 (fun _ => trivial) rfl (by kernel_rfl) (fun _ _ _ _ h => h) hC rfl ?_; apply Exists.intro; refine ⟨?_, ?_⟩
            ·rintro w ⟨r1, r2, r3, r4⟩; go_simp; try with_reducible rfl
            simp only [Act.put, List.setIfInBounds_toArray, List.set_cons_succ, List.set_cons_zero]
            refine Lim.stepR 9 (fun _ => trivial) rfl (by kernel_rfl) (fun _ _ _ _ h => h) hC rfl ?_; apply Exists.intro; refine ⟨?_, ?_⟩
            ·rintro w ⟨r1, r2, r3, r4⟩; go_simp; try with_reducible rfl
            simp only [Act.put, List.setIfInBounds_toArray, List.set_cons_succ, List.set_cons_zero]
            refine Lim.stepS 10 (fun _ => trivial) rfl (by kernel_rfl) (fun _ _ _ _ h => h) hC rfl ?_
            simp only [Act.put, List.setIfInBounds_toArray, List.set_cons_succ, List.set_cons_zero]
            refine Lim.stepS 11 (fun _ => trivial) rfl (by kernel_rfl) (fun _ _ _ _ h => h) hC rfl ?_
            simp only [Act.put, List.setIfInBounds_toArray, List.set_cons_succ, List.set_cons_zero]
            refine Lim.stepS 12 (fun _ => trivial) rfl (by kernel_rfl) (fun _ _ _ _ h => h) hC rfl ?_
            simp only [Act.put, List.setIfInBounds_toArray, List.set_cons_succ, List.set_cons_zero]
            refine Lim.stepS 13 (fun _ => trivial) rfl (by kernel_rfl) (fun _ _ _ _ h => h) hC rfl ?_
            simp only [Act.put, List.setIfInBounds_toArray, List.set_cons_succ, List.set_cons_zero]
            refine Lim.stepS 14 (fun _ => trivial) rfl (by kernel_rfl) (fun _ _ _ _ h => h) hC rfl ?_
            simp only [Act.put, List.setIfInBounds_toArray, List.set_cons_succ, List.set_cons_zero]
            refine Lim.stepS 15 (fun _ => trivial) rfl (by kernel_rfl) (fun _ _ _ _ h => h) hC rfl ?_
            simp only [Act.put, List.setIfInBounds_toArray, List.set_cons_succ, List.set_cons_zero]
            refine Lim.stepS 16 (fun _ => trivial) rfl (by kernel_rfl) (fun _ _ _ _ h => h) hC rfl ?_
            simp only [Act.put, List.setIfInBounds_toArray, List.set_cons_succ, List.set_cons_zero]
            refine Lim.stepS 17 (fun _ => trivial) rfl (by kernel_rfl) (fun _ _ _ _ h => h) hC rfl ?_
            simp only [Act.put, List.setIfInBounds_toArray, List.set_cons_succ, List.set_cons_zero]
            refine Lim.stepS 18 (fun _ => trivial) rfl (by kernel_rfl) (fun _ _ _ _ h => h) hC rfl ?_
            simp only [Act.put, List.setIfInBounds_toArray, List.set_cons_succ, List.set_cons_zero]
            refine Lim.stepS 19 (fun _ => trivial) rfl (by kernel_rfl) (fun _ _ _ _ h => h) hC rfl ?_
            simp only [Act.put, List.setIfInBounds_toArray, List.set_cons_succ, List.set_cons_zero]
            refine Lim.stepS 20 (fun _ => trivial) rfl (by kernel_rfl) (fun _ _ _ _ h => h) hC rfl ?_
            simp only [Act.put, List.setIfInBounds_toArray, List.set_cons_succ, List.set_cons_zero]
            refine Lim.stepS 21 (fun _ => trivial) rfl (by kernel_rfl) (fun _ _ _ _ h => h) hC rfl ?_
            simp only [Act.put, List.setIfInBounds_toArray, List.set_cons_succ, List.set_cons_zero]
            refine Lim.stepS 22 (fun _ => trivial) rfl (by kernel_rfl) (fun _ _ _ _ h => h) hC rfl ?_
            simp only [Act.put, List.setIfInBounds_toArray, List.set_cons_succ, List.set_cons_zero]
            refine Lim.stepS 23 (fun _ => trivial) rfl (by kernel_rfl) (fun _ _ _ _ h => h) hC rfl ?_
            simp only [Act.put, List.setIfInBounds_toArray, List.set_cons_succ, List.set_cons_zero]
            refine Lim.stepS 24 (fun _ => trivial) rfl (by kernel_rfl) (fun _ _ _ _ h => h) hC rfl ?_
            simp only [Act.put, List.setIfInBounds_toArray, List.set_cons_succ, List.set_cons_zero]
            refine Lim.stepS 25 (fun _ => trivial) rfl (by kernel_rfl) (fun _ _ _ _ h => h) hC rfl ?_
            simp only [Act.put, List.setIfInBounds_toArray, List.set_cons_succ, List.set_cons_zero]
            refine Lim.stepR 26 (fun _ => trivial) rfl (by kernel_rfl) (fun _ _ _ _ h => h) hC rfl ?_; apply Exists.intro; refine ⟨?_, ?_⟩
            ·rintro w ⟨r1, r2, r3, r4⟩; go_simp; try with_reducible rfl
            simp only [Act.put, List.setIfInBounds_toArray, List.set_cons_succ, List.set_cons_zero]
            refine Lim.stepD (by kernel_rfl) ?_
            clear hC
            go_wp2_with fail
            go_ret2
            exact HF2.out false _ HB4.out.drew ⟨fun h => (by cases h), fun h => by
             have h1 := (HLI.out.1 h).2.2.2 xt HT.out.2.2
             rw [← HT.out.2.1] at h1
             exact absurd HUJ.out h1⟩
           ·have d1 : ((ut : Int) == j') = false := by rw [beq_eq_false_iff_ne]; omega
            have d1' : (ut == j') = false := by rw [beq_eq_false_iff_ne]; omega
            have HUJ := Lib.hid huj
            clear huj
            by_cases ht0 : t = 0
            ·have d2 : decide ((0 : Int) < (t : Int)) = false := by simp; omega
             have d2' : decide (0 < t) = false := by simp; omega
             have HT0 := Lib.hid ht0
             clear ht0
             go_upto_region 15 with (fail)
             have hC : (fun W => W.cell? ⟨q, 0, none⟩ = some (.int .i64 m.wd) ∧ W.cell? ⟨q, 1, none⟩ = some (.slice oa n oc) ∧ W.cell? ⟨sb, so + t, none⟩ = some (.int .i64 xt) ∧ W.cell? ⟨gl, ol + xt, none⟩ = some (.int .i64 ut)) wr0.drew := ⟨f0, f1, ct, cu⟩
             refine Lim.regC' (fun W => W.cell? ⟨q, 0, none⟩ = some (.int .i64 m.wd) ∧ W.cell? ⟨q, 1, none⟩ = some (.slice oa n oc) ∧ W.cell? ⟨sb, so + t, none⟩ = some (.int .i64 xt) ∧ W.cell? ⟨gl, ol + xt, none⟩ = some (.int .i64 ut)) [] #[false, false, false, false, false, false, false, false, false, false, false, false, false, false, false, false, false, false, false, false, false, false, false, false, false, false, false] (by kernel_rfl) rfl ?_
             refine Lim.stepR 0 (fun _ => trivial) rfl (by kernel_rfl) (fun _ _ _ _ h => h) hC rfl ?_; apply Exists.intro; refine ⟨?_, ?_⟩
             ·rintro w ⟨r1, r2, r3, r4⟩; go_simp; try with_reducible rfl
             simp only [Act.put, List.setIfInBounds_toArray, List.set_cons_succ, List.set_cons_zero]
             refine Lim.stepR 1 (fun _ => trivial) rfl (by kernel_rfl) (fun _ _ _ _ h => h) hC rfl ?_; apply Exists.intro; refine ⟨?_, ?_⟩
             ·rintro w ⟨r1, r2, r3, r4⟩; go_simp; try with_reducible rfl
             simp only [Act.put, List.setIfInBounds_toArray, List.set_cons_succ, List.set_cons_zero]
             refine Lim.stepR 2 (fun _ => trivial) rfl (by kernel_rfl) (fun _ _ _ _ h => h) hC rfl ?_; apply Exists.intro; refine ⟨?_, ?_⟩
             ·rintro w ⟨r1, r2, r3, r4⟩; go_simp; try with_reducible rfl
             simp only [Act.put, List.setIfInBounds_toArray, List.set_cons_succ, List.set_cons_zero]
             refine Lim.stepR 3 (fun _ => trivial) rfl (by kernel_rfl) (fun _ _ _ _ h => h) hC rfl ?_; apply Exists.intro; refine ⟨?_, ?_⟩
             ·rintro w ⟨r1, r2, r3, r4⟩; go_simp; try with_reducible rfl
             simp only [Act.put, List.setIfInBounds_toArray, List.set_cons_succ, List.set_cons_zero]
             refine Lim.stepR 4 (fun _ => trivial) rfl (by kernel_rfl) (fun _ _ _ _ h => h) hC rfl ?_; apply Exists.intro; refine ⟨?_, ?_⟩
             ·rintro w ⟨r1, r2, r3, r4⟩; go_simp; try with_reducible rfl
             simp only [Act.put, List.setIfInBounds_toArray, List.set_cons_succ, List.set_cons_zero]
             refine Lim.stepR 5 (fun _ => trivial) rfl (by kernel_rfl) (fun _ _ _ _ h => h) hC rfl ?_; apply Exists.intro; refine ⟨?_, ?_⟩
             ·rintro w ⟨r1, r2, r3, r4⟩; go_simp; try with_reducible rfl
             simp only [Act.put, List.setIfInBounds_toArray, List.set_cons_succ, List.set_cons_zero]
             refine Lim.stepR 6 (fun _ => trivial) rfl (by kernel_rfl) (fun _ _ _ _ h => h) hC rfl ?_; apply Exists.intro; refine ⟨?_, ?_⟩
             ·rintro w ⟨r1, r2, r3, r4⟩; go_simp; try with_reducible rfl
             simp only [Act.put, List.setIfInBounds_toArray, List.set_cons_succ, List.set_cons_zero]
             refine Lim.stepR 7 (fun _ => trivial) rfl (by kernel_rfl) (fun _ _ _ _ h => h) hC rfl ?_; apply Exists.intro; refine ⟨?_, ?_⟩
             ·rintro w ⟨r1, r2, r3, r4⟩; go_simp; try with_reducible rfl
             simp only [Act.put, List.setIfInBounds_toArray, List.set_cons_succ, List.set_cons_zero]
             refine Lim.stepR 8 (fun _ => trivial) rfl (by kernel_rfl) (fun _ _ _ _ h => h) hC rfl ?_; apply Exists.intro; refine ⟨?_, ?_⟩
             ·rintro w ⟨r1, r2, r3, r4⟩; go_simp; try with_reducible rfl
             simp only [Act.put, List.setIfInBounds_toArray, List.set_cons_succ, List.set_cons_zero]
             refine Lim.stepR 9 (fun _ => trivial) rfl (by kernel_rfl) (fun _ _ _ _ h => h) hC rfl ?_; apply Exists.intro; refine ⟨?_, ?_⟩
             ·rintro w ⟨r1, r2, r3, r4⟩; go_simp; try with_reducible rfl
             simp only [Act.put, List.setIfInBounds_toArray, List.set_cons_succ, List.set_cons_zero]
             refine Lim.stepR 10 (fun _ => trivial) rfl (by kernel_rfl) (fun _ _ _ _ h => h) hC rfl ?_; apply Exists.intro; refine ⟨?_, ?_⟩
             ·rintro w ⟨r1, r2, r3, r4⟩; go_simp; try with_reducible rfl
             simp only [Act.put, List.setIfInBounds_toArray, List.set_cons_succ, List.set_cons_zero]
             refine Lim.stepR 11 (fun _ => trivial) rfl (by kernel_rfl) (fun _ _ _ _ h => h) hC rfl ?_; apply Exists.intro; refine ⟨?_, ?_⟩
             ·rintro w ⟨r1, r2, r3, r4⟩; go_simp; try with_reducible rfl
             simp only [Act.put, List.setIfInBounds_toArray, List.set_cons_succ, List.set_cons_zero]
             refine Lim.stepR 12 (fun _ => trivial) rfl (by kernel_rfl) (fun _ _ _ _ h => h) hC rfl ?_; apply Exists.intro; refine ⟨?_, ?_⟩
             ·rintro w ⟨r1, r2, r3, r4⟩; go_simp; try with_reducible rfl
             simp only [Act.put, List.setIfInBounds_toArray, List.set_cons_succ, List.set_cons_zero]
             refine Lim.stepS 13 (fun _ => trivial) rfl (by kernel_rfl) (fun _ _ _ _ h => h) hC rfl ?_
             simp only [Act.put, List.setIfInBounds_toArray, List.set_cons_succ, List.set_cons_zero]
             refine Lim.stepS 14 (fun _ => trivial) rfl (by kernel_rfl) (fun _ _ _ _ h => h) hC rfl ?_
             simp only [Act.put, List.setIfInBounds_toArray, List.set_cons_succ, List.set_cons_zero]
             refine Lim.stepS 15 (fun _ => trivial) rfl (by kernel_rfl) (fun _ _ _ _ h => h) hC rfl ?_
             simp only [Act.put, List.setIfInBounds_toArray, List.set_cons_succ, List.set_cons_zero]
             refine Lim.stepS 16 (fun _ => trivial) rfl (by kernel_rfl) (fun _ _ _ _ h => h) hC rfl ?_
             simp only [Act.put, List.setIfInBounds_toArray, List.set_cons_succ, List.set_cons_zero]
             refine Lim.stepS 17 (fun _ => trivial) rfl (by kernel_rfl) (fun _ _ _ _ h => h) hC rfl ?_
             simp only [Act.put, List.setIfInBounds_toArray, List.set_cons_succ, List.set_cons_zero]
             refine Lim.stepS 18 (fun _ => trivial) rfl (by kernel_rfl) (fun _ _ _ _ h => h) hC rfl ?_
             simp only [Act.put, List.setIfInBounds_toArray, List.set_cons_succ, List.set_cons_zero]
             refine Lim.stepS 19 (fun _ => trivial) rfl (by kernel_rfl) (fun _ _ _ _ h => h) hC rfl ?_
             simp only [Act.put, List.setIfInBounds_toArray, List.set_cons_succ, List.set_cons_zero]
             refine Lim.stepS 20 (fun _ => trivial) rfl (by kernel_rfl) (fun _ _ _ _ h => h) hC rfl ?_
             simp only [Act.put, List.setIfInBounds_toArray, List.set_cons_succ, List.set_cons_zero]
             refine Lim.stepS 21 (fun _ => trivial) rfl (by kernel_rfl) (fun _ _ _ _ h => h) hC rfl ?_
             simp only [Act.put, List.setIfInBounds_toArray, List.set_cons_succ, List.set_cons_zero]
             refine Lim.stepS 22 (fun _ => trivial) rfl (by kernel_rfl) (fun _ _ _ _ h => h) hC rfl ?_
             simp only [Act.put, List.setIfInBounds_toArray, List.set_cons_succ, List.set_cons_zero]
             refine Lim.stepS 23 (fun _ => trivial) rfl (by kernel_rfl) (fun _ _ _ _ h => h) hC rfl ?_
             simp only [Act.put, List.setIfInBounds_toArray, List.set_cons_succ, List.set_cons_zero]
             refine Lim.stepS 24 (fun _ => trivial) rfl (by kernel_rfl) (fun _ _ _ _ h => h) hC rfl ?_
             simp only [Act.put, List.setIfInBounds_toArray, List.set_cons_succ, List.set_cons_zero]
             refine Lim.stepR 25 (fun _ => trivial) rfl (by kernel_rfl) (fun _ _ _ _ h => h) hC rfl ?_; apply Exists.intro; refine ⟨?_, ?_⟩
             ·rintro w ⟨r1, r2, r3, r4⟩; go_simp; try with_reducible rfl
             simp only [Act.put, List.setIfInBounds_toArray, List.set_cons_succ, List.set_cons_zero]
             refine Lim.stepR 26 (fun _ => trivial) rfl (by kernel_rfl) (fun _ _ _ _ h => h) hC rfl ?_; apply Exists.intro; refine ⟨?_, ?_⟩
             ·rintro w ⟨r1, r2, r3, r4⟩; go_simp; try with_reducible rfl
             simp only [Act.put, List.setIfInBounds_toArray, List.set_cons_succ, List.set_cons_zero]
             refine Lim.stepD (by kernel_rfl) ?_
             clear hC
             go_wp2_with fail
             go_roundw
             case rel =>
              have h0 := HT0.out
              refine ⟨t + 1, by omega, by go_num, Lib.hid ⟨hI.out.1.drew, fun a ha => ?_, fun a ha => by omega⟩⟩
              rw [show a = t by omega, HT.out.1, ← HT.out.2.1]; exact HUJ.out
             case measure => simp [intOf]; omega
            ·have d2 : decide ((0 : Int) < (t : Int)) = true := by simp; omega
             have d2' : decide (0 < t) = true := by simp; omega
             obtain ⟨t1, ht1⟩ : ∃ t1, t = t1 + 1 := ⟨t - 1, by omega⟩
             have ht1N : t1 < N := by omega
             have ht164 : (t1 : Int) < N := by omega
             have hw3 : IntKind.i64.wrap ((t : Int) - 1) = (t1 : Int) := by rw [IntWalk.i64_in _ (by omega)]; omega
             have HT1 := Lib.hid ht1
             obtain ⟨xp, hxp, hxp', hxpn⟩ := HLX.out t1 ht1N
             have cp := HCX.out wr0 HB4.out t1 ht1N
             rw [hxp'] at cp
             obtain ⟨z2, hz2⟩ : ∃ z, z = nbB m xp xt := ⟨_, rfl⟩
             have HBE : Hid (∀ W, Calls Try.prog 64 #[.agg #[.int .i64 m.wd, .slice oa n oc], .int .i64 xp, .int .i64 xt] W fun e w' => e = .returned (.bool z2) ∧ Below W.heap.size W w') := Lib.hid fun W => by
              rw [hz2]
              have e : m.n = n := HNN.out
              rw [← e]
              exact rbeside_any HM.out.1 (by rw [e]; exact hxpn) (by rw [e]; exact hxtn)
             have HPX : Hid (L.getD t1 0 = xp ∧ (z2 = true ↔ nb m xp xt)) := Lib.hid ⟨by rw [List.getD_eq_getElem?_getD, hxp]; rfl, by rw [hz2, nbB_iff]⟩
             clear hxp hxp' hz2 ht1 ht0
             obtain ⟨HP, -⟩ : Hid (Below w.heap.size w wr0) ∧ True := ⟨HB4, trivial⟩
             go_upto_region 15 with (fail)
             have hC : (fun W => W.cell? ⟨q, 0, none⟩ = some (.int .i64 m.wd) ∧ W.cell? ⟨q, 1, none⟩ = some (.slice oa n oc) ∧ W.cell? ⟨sb, so + t, none⟩ = some (.int .i64 xt) ∧ W.cell? ⟨gl, ol + xt, none⟩ = some (.int .i64 ut) ∧ W.cell? ⟨sb, so + t1, none⟩ = some (.int .i64 xp)) wr0.drew := ⟨f0, f1, ct, cu, cp⟩
             refine Lim.regC' (fun W => W.cell? ⟨q, 0, none⟩ = some (.int .i64 m.wd) ∧ W.cell? ⟨q, 1, none⟩ = some (.slice oa n oc) ∧ W.cell? ⟨sb, so + t, none⟩ = some (.int .i64 xt) ∧ W.cell? ⟨gl, ol + xt, none⟩ = some (.int .i64 ut) ∧ W.cell? ⟨sb, so + t1, none⟩ = some (.int .i64 xp)) [] #[false, false, false, false, false, false, false, false, false, false, false, false, false, false, false, false, false, false, false, false, false, false, false, false, false, false, false] (by kernel_rfl) rfl ?_
             refine Lim.stepR 0 (fun _ => trivial) rfl (by kernel_rfl) (fun _ _ _ _ h => h) hC rfl ?_; apply Exists.intro; refine ⟨?_, ?_⟩
             ·rintro w ⟨r1, r2, r3, r4, r5⟩; go_simp; try with_reducible rfl
             simp only [Act.put, List.setIfInBounds_toArray, List.set_cons_succ, List.set_cons_zero]
             refine Lim.stepR 1 (fun _ => trivial) rfl (by kernel_rfl) (fun _ _ _ _ h => h) hC rfl ?_; apply Exists.intro; refine ⟨?_, ?_⟩
             ·rintro w ⟨r1, r2, r3, r4, r5⟩; go_simp; try with_reducible rfl
             simp only [Act.put, List.setIfInBounds_toArray, List.set_cons_succ, List.set_cons_zero]
             refine Lim.stepR 2 (fun _ => trivial) rfl (by kernel_rfl) (fun _ _ _ _ h => h) hC rfl ?_; apply Exists.intro; refine ⟨?_, ?_⟩
             ·rintro w ⟨r1, r2, r3, r4, r5⟩; go_simp; try with_reducible rfl
             simp only [Act.put, List.setIfInBounds_toArray, List.set_cons_succ, List.set_cons_zero]
             refine Lim.stepR 3 (fun _ => trivial) rfl (by kernel_rfl) (fun _ _ _ _ h => h) hC rfl ?_; apply Exists.intro; refine ⟨?_, ?_⟩
             ·rintro w ⟨r1, r2, r3, r4, r5⟩; go_simp; try with_reducible rfl
             simp only [Act.put, List.setIfInBounds_toArray, List.set_cons_succ, List.set_cons_zero]
             refine Lim.stepR 4 (fun _ => trivial) rfl (by kernel_rfl) (fun _ _ _ _ h => h) hC rfl ?_; apply Exists.intro; refine ⟨?_, ?_⟩
             ·rintro w ⟨r1, r2, r3, r4, r5⟩; go_simp; try with_reducible rfl
             simp only [Act.put, List.setIfInBounds_toArray, List.set_cons_succ, List.set_cons_zero]
             refine Lim.stepR 5 (fun _ => trivial) rfl (by kernel_rfl) (fun _ _ _ _ h => h) hC rfl ?_; apply Exists.intro; refine ⟨?_, ?_⟩
             ·rintro w ⟨r1, r2, r3, r4, r5⟩; go_simp; try with_reducible rfl
             simp only [Act.put, List.setIfInBounds_toArray, List.set_cons_succ, List.set_cons_zero]
             refine Lim.stepR 6 (fun _ => trivial) rfl (by kernel_rfl) (fun _ _ _ _ h => h) hC rfl ?_; apply Exists.intro; refine ⟨?_, ?_⟩
             ·rintro w ⟨r1, r2, r3, r4, r5⟩; go_simp; try with_reducible rfl
             simp only [Act.put, List.setIfInBounds_toArray, List.set_cons_succ, List.set_cons_zero]
             refine Lim.stepR 7 (fun _ => trivial) rfl (by kernel_rfl) (fun _ _ _ _ h => h) hC rfl ?_; apply Exists.intro; refine ⟨?_, ?_⟩
             ·rintro w ⟨r1, r2, r3, r4, r5⟩; go_simp; try with_reducible rfl
             simp only [Act.put, List.setIfInBounds_toArray, List.set_cons_succ, List.set_cons_zero]
             refine Lim.stepR 8 (fun _ => trivial) rfl (by kernel_rfl) (fun _ _ _ _ h => h) hC rfl ?_; apply Exists.intro; refine ⟨?_, ?_⟩
             ·rintro w ⟨r1, r2, r3, r4, r5⟩; go_simp; try with_reducible rfl
             simp only [Act.put, List.setIfInBounds_toArray, List.set_cons_succ, List.set_cons_zero]
             refine Lim.stepR 9 (fun _ => trivial) rfl (by kernel_rfl) (fun _ _ _ _ h => h) hC rfl ?_; apply Exists.intro; refine ⟨?_, ?_⟩
             ·rintro w ⟨r1, r2, r3, r4, r5⟩; go_simp; try with_reducible rfl
             simp only [Act.put, List.setIfInBounds_toArray, List.set_cons_succ, List.set_cons_zero]
             refine Lim.stepR 10 (fun _ => trivial) rfl (by kernel_rfl) (fun _ _ _ _ h => h) hC rfl ?_; apply Exists.intro; refine ⟨?_, ?_⟩
             ·rintro w ⟨r1, r2, r3, r4, r5⟩; go_simp; try with_reducible rfl
             simp only [Act.put, List.setIfInBounds_toArray, List.set_cons_succ, List.set_cons_zero]
             refine Lim.stepR 11 (fun _ => trivial) rfl (by kernel_rfl) (fun _ _ _ _ h => h) hC rfl ?_; apply Exists.intro; refine ⟨?_, ?_⟩
             ·rintro w ⟨r1, r2, r3, r4, r5⟩; go_simp; try with_reducible rfl
             simp only [Act.put, List.setIfInBounds_toArray, List.set_cons_succ, List.set_cons_zero]
             refine Lim.stepR 12 (fun _ => trivial) rfl (by kernel_rfl) (fun _ _ _ _ h => h) hC rfl ?_; apply Exists.intro; refine ⟨?_, ?_⟩
             ·rintro w ⟨r1, r2, r3, r4, r5⟩; go_simp; try with_reducible rfl
             simp only [Act.put, List.setIfInBounds_toArray, List.set_cons_succ, List.set_cons_zero]
             refine Lim.stepR 13 (fun _ => trivial) rfl (by kernel_rfl) (fun _ _ _ _ h => h) hC rfl ?_; apply Exists.intro; refine ⟨?_, ?_⟩
             ·rintro w ⟨r1, r2, r3, r4, r5⟩; go_simp; try with_reducible rfl
             simp only [Act.put, List.setIfInBounds_toArray, List.set_cons_succ, List.set_cons_zero]
             refine Lim.stepR 14 (fun _ => trivial) rfl (by kernel_rfl) (fun _ _ _ _ h => h) hC rfl ?_; apply Exists.intro; refine ⟨?_, ?_⟩
             ·rintro w ⟨r1, r2, r3, r4, r5⟩; go_simp; try with_reducible rfl
             simp only [Act.put, List.setIfInBounds_toArray, List.set_cons_succ, List.set_cons_zero]
             refine Lim.stepR 15 (fun _ => trivial) rfl (by kernel_rfl) (fun _ _ _ _ h => h) hC rfl ?_; apply Exists.intro; refine ⟨?_, ?_⟩
             ·rintro w ⟨r1, r2, r3, r4, r5⟩; go_simp; try with_reducible rfl
             simp only [Act.put, List.setIfInBounds_toArray, List.set_cons_succ, List.set_cons_zero]
             refine Lim.stepR 16 (fun _ => trivial) rfl (by kernel_rfl) (fun _ _ _ _ h => h) hC rfl ?_; apply Exists.intro; refine ⟨?_, ?_⟩
             ·rintro w ⟨r1, r2, r3, r4, r5⟩; go_simp; try with_reducible rfl
             simp only [Act.put, List.setIfInBounds_toArray, List.set_cons_succ, List.set_cons_zero]
             refine Lim.stepR 17 (fun _ => trivial) rfl (by kernel_rfl) (fun _ _ _ _ h => h) hC rfl ?_; apply Exists.intro; refine ⟨?_, ?_⟩
             ·rintro w ⟨r1, r2, r3, r4, r5⟩; go_simp; try with_reducible rfl
             simp only [Act.put, List.setIfInBounds_toArray, List.set_cons_succ, List.set_cons_zero]
             refine Lim.stepR 18 (fun _ => trivial) rfl (by kernel_rfl) (fun _ _ _ _ h => h) hC rfl ?_; apply Exists.intro; refine ⟨?_, ?_⟩
             ·rintro w ⟨r1, r2, r3, r4, r5⟩; go_simp; try with_reducible rfl
             simp only [Act.put, List.setIfInBounds_toArray, List.set_cons_succ, List.set_cons_zero]
             refine Lim.stepR 19 (fun _ => trivial) rfl (by kernel_rfl) (fun _ _ _ _ h => h) hC rfl ?_; apply Exists.intro; refine ⟨?_, ?_⟩
             ·rintro w ⟨r1, r2, r3, r4, r5⟩; go_simp; try with_reducible rfl
             simp only [Act.put, List.setIfInBounds_toArray, List.set_cons_succ, List.set_cons_zero]
             refine Lim.stepR 20 (fun _ => trivial) rfl (by kernel_rfl) (fun _ _ _ _ h => h) hC rfl ?_; apply Exists.intro; refine ⟨?_, ?_⟩
             ·rintro w ⟨r1, r2, r3, r4, r5⟩; go_simp; try with_reducible rfl
             simp only [Act.put, List.setIfInBounds_toArray, List.set_cons_succ, List.set_cons_zero]
             refine Lim.stepR 21 (fun _ => trivial) rfl (by kernel_rfl) (fun _ _ _ _ h => h) hC rfl ?_; apply Exists.intro; refine ⟨?_, ?_⟩
             ·rintro w ⟨r1, r2, r3, r4, r5⟩; go_simp; try with_reducible rfl
             simp only [Act.put, List.setIfInBounds_toArray, List.set_cons_succ, List.set_cons_zero]
             refine Lim.stepR 22 (fun _ => trivial) rfl (by kernel_rfl) (fun _ _ _ _ h => h) hC rfl ?_; apply Exists.intro; refine ⟨?_, ?_⟩
             ·rintro w ⟨r1, r2, r3, r4, r5⟩; go_simp; try with_reducible rfl
             simp only [Act.put, List.setIfInBounds_toArray, List.set_cons_succ, List.set_cons_zero]
             refine Lim.stepE 23 (fun _ => trivial) rfl (by kernel_rfl) rfl (fun K hK => ?_)   -- E call
             go_simp
             refine ⟨rfl, (callsIn_wide.2 (HBE.out _)).mono ?_⟩
             rintro e w9 ⟨rfl, hb9⟩
             have HPX9 := Lib.hid (HP.out.trans (((Below.refl _ wr0).drew.trans hb9).mono HP.out.size))
             have hC9 : (fun W => W.cell? ⟨q, 0, none⟩ = some (.int .i64 m.wd) ∧ W.cell? ⟨q, 1, none⟩ = some (.slice oa n oc) ∧ W.cell? ⟨sb, so + t, none⟩ = some (.int .i64 xt) ∧ W.cell? ⟨gl, ol + xt, none⟩ = some (.int .i64 ut) ∧ W.cell? ⟨sb, so + t1, none⟩ = some (.int .i64 xp)) w9 := ⟨hb9.on hC.1, hb9.on hC.2.1, hb9.on hC.2.2.1, hb9.on hC.2.2.2.1, hb9.on hC.2.2.2.2⟩
             refine hK _ _ hC9 ?_
             have hb9c := hb9
             clear hb9
             simp only [Act.put, List.setIfInBounds_toArray, List.set_cons_succ, List.set_cons_zero]
             have HB90 := Lib.hid ((Below.refl wr0.heap.size wr0).drew.trans hb9c)
             refine Lim.stepR 24 (fun _ => trivial) rfl (by kernel_rfl) (fun _ _ _ _ h => h) hC9 rfl ?_; apply Exists.intro; refine ⟨?_, ?_⟩
             ·rintro w ⟨r1, r2, r3, r4, r5⟩; go_simp; try with_reducible rfl
             simp only [Act.put, List.setIfInBounds_toArray, List.set_cons_succ, List.set_cons_zero]
             refine Lim.stepR 25 (fun _ => trivial) rfl (by kernel_rfl) (fun _ _ _ _ h => h) hC9 rfl ?_; apply Exists.intro; refine ⟨?_, ?_⟩
             ·rintro w ⟨r1, r2, r3, r4, r5⟩; go_simp; try with_reducible rfl
             simp only [Act.put, List.setIfInBounds_toArray, List.set_cons_succ, List.set_cons_zero]
             refine Lim.stepR 26 (fun _ => trivial) rfl (by kernel_rfl) (fun _ _ _ _ h => h) hC9 rfl ?_; apply Exists.intro; refine ⟨?_, ?_⟩
             ·rintro w ⟨r1, r2, r3, r4, r5⟩; go_simp; try with_reducible rfl
             simp only [Act.put, List.setIfInBounds_toArray, List.set_cons_succ, List.set_cons_zero]
             refine Lim.stepD (by kernel_rfl) ?_
             clear hC hC9
             cases z2 with
             | false =>
              have HNB : Hid (¬ nb m xp xt) := Lib.hid (fun h => by have := HPX.out.2.2 h; cases this)
              go_wp2_with fail
              go_ret2
              exact HF2.out false _ HPX9.out ⟨fun h => (by cases h), fun h => by
               have h1 := (HLI.out.1 h).1
               rw [goesB, Bool.and_eq_true, goesTo_iff] at h1
               have h2 := h1.1 t1 (by rw [HLN.out.1]; have := HT1.out; omega)
               rw [← HT1.out, HPX.out.1, HT.out.1] at h2
               exact absurd h2 HNB.out⟩
             | true =>
              have HNB := Lib.hid (HPX.out.2.1 rfl)
              have HNEXT : Hid (Below w9'.heap.size w9' w9 ∧ (∀ a, a < t + 1 → r (L.getD a 0) ≠ j') ∧ ∀ a, a + 1 < t + 1 → nb m (L.getD a 0) (L.getD (a + 1) 0)) := by
               rw [HW9.out]
               refine Lib.hid ⟨hI.out.1.trans (HB90.out.mono hI.out.1.size), fun a ha => ?_, fun a ha => ?_⟩
               ·by_cases e : a = t
                ·rw [e, HT.out.1, ← HT.out.2.1]; exact HUJ.out
                ·exact hI.out.2.1 a (by omega)
               ·by_cases e : a + 1 = t
                ·have e2 : a = t1 := by have := HT1.out; omega
                 rw [e, HT.out.1, e2, HPX.out.1]; exact HNB.out
                ·exact hI.out.2.2 a (by omega)
              go_wp2_with fail
              go_roundw
              case rel =>
               rw [HW9.out] at HNEXT
               first
                | exact ⟨t + 1, by omega, by go_num, HNEXT⟩
                | exact ⟨_, _, _, ⟨t + 1, by omega, rfl, HNEXT⟩, rfl, rfl, by go_num⟩
                | exact ⟨_, _, _, ⟨t + 1, by omega, rfl, HNEXT⟩, rfl, rfl, rfl⟩
              case measure => simp [intOf]; omega
          ·have hs' : ¬ (t : Int) < N := by omega
           obtain rfl : t = N := by omega
           go_wp2_with fail
           go_ret2
           refine HF2.out true _ (HP9.out.trans (hI.out.1.mono HP9.out.size)) ⟨fun _ => HLI.out.2 ⟨?_, ?_, ?_, ?_⟩, fun _ => rfl⟩
           ·rw [goesB, Bool.and_eq_true, goesTo_iff]
            refine ⟨fun a ha => hI.out.2.2 a (by rw [HLN.out.1] at ha; exact ha), by rw [HLN.out.1]; simpa using hN1⟩
           ·rw [HG.out.1, ← HU.out.1]; exact HUI.out
           ·rw [HG.out.2, ← HU.out.2]
           ·intro p hp
            obtain ⟨a, ha, rfl⟩ := List.mem_iff_getElem.1 hp
            have h := hI.out.2.1 a (by rw [HLN.out.1] at ha; exact ha)
            rwa [List.getD_eq_getElem?_getD, List.getElem?_eq_getElem ha] at h
       ·have d1 : ((u0 : Int) != i') = true := by simp; omega
        have d1' : (u0 != i') = true := by simpa using hui
        have HUI := Lib.hid hui
        clear hui
        refine Lim.regC' (fun W => W.cell? ⟨q, 0, none⟩ = some (.int .i64 m.wd) ∧ W.cell? ⟨q, 1, none⟩ = some (.slice oa n oc) ∧ W.cell? ⟨sb, so, none⟩ = some (.int .i64 x0) ∧ W.cell? ⟨sb, so + l1, none⟩ = some (.int .i64 xl) ∧ W.cell? ⟨gl, ol + x0, none⟩ = some (.int .i64 u0)) [] #[false, false, false, false, false, false, false, false, false, false, false, false, false, false, false, false, false, false, false, false, false, false, false, false] (by kernel_rfl) rfl ?_
        refine Lim.stepR 0 (fun _ => trivial) rfl (by kernel_rfl) (fun _ _ _ _ h => h) hC rfl ?_; apply Exists.intro; refine ⟨?_, ?_⟩
        ·rintro w ⟨r1, r2, r3, r4, r5⟩; go_simp; try with_reducible rfl
        simp only [Act.put, List.setIfInBounds_toArray, List.set_cons_succ, List.set_cons_zero]
        refine Lim.stepR 1 (fun _ => trivial) rfl (by kernel_rfl) (fun _ _ _ _ h => h) hC rfl ?_; apply Exists.intro; refine ⟨?_, ?_⟩
        ·rintro w ⟨r1, r2, r3, r4, r5⟩; go_simp; try with_reducible rfl
        simp only [Act.put, List.setIfInBounds_toArray, List.set_cons_succ, List.set_cons_zero]
        refine Lim.stepR 2 (fun _ => trivial) rfl (by kernel_rfl) (fun _ _ _ _ h => h) hC rfl ?_; apply Exists.intro; refine ⟨?_, ?_⟩
        ·rintro w ⟨r1, r2, r3, r4, r5⟩; go_simp; try with_reducible rfl
        simp only [Act.put, List.setIfInBounds_toArray, List.set_cons_succ, List.set_cons_zero]
        refine Lim.stepR 3 (fun _ => trivial) rfl (by kernel_rfl) (fun _ _ _ _ h => h) hC rfl ?_; apply Exists.intro; refine ⟨?_, ?_⟩
        ·rintro w ⟨r1, r2, r3, r4, r5⟩; go_simp; try with_reducible rfl
        simp only [Act.put, List.setIfInBounds_toArray, List.set_cons_succ, List.set_cons_zero]
        refine Lim.stepR 4 (fun _ => trivial) rfl (by kernel_rfl) (fun _ _ _ _ h => h) hC rfl ?_; apply Exists.intro; refine ⟨?_, ?_⟩
        ·rintro w ⟨r1, r2, r3, r4, r5⟩; go_simp; try with_reducible rfl
        simp only [Act.put, List.setIfInBounds_toArray, List.set_cons_succ, List.set_cons_zero]
        refine Lim.stepR 5 (fun _ => trivial) rfl (by kernel_rfl) (fun _ _ _ _ h => h) hC rfl ?_; apply Exists.intro; refine ⟨?_, ?_⟩
        ·rintro w ⟨r1, r2, r3, r4, r5⟩; go_simp; try with_reducible rfl
        simp only [Act.put, List.setIfInBounds_toArray, List.set_cons_succ, List.set_cons_zero]
        refine Lim.stepR 6 (fun _ => trivial) rfl (by kernel_rfl) (fun _ _ _ _ h => h) hC rfl ?_; apply Exists.intro; refine ⟨?_, ?_⟩
        ·rintro w ⟨r1, r2, r3, r4, r5⟩; go_simp; try with_reducible rfl
        simp only [Act.put, List.setIfInBounds_toArray, List.set_cons_succ, List.set_cons_zero]
        refine Lim.stepR 7 (fun _ => trivial) rfl (by kernel_rfl) (fun _ _ _ _ h => h) hC rfl ?_; apply Exists.intro; refine ⟨?_, ?_⟩
        ·rintro w ⟨r1, r2, r3, r4, r5⟩; go_simp; try with_reducible rfl
        simp only [Act.put, List.setIfInBounds_toArray, List.set_cons_succ, List.set_cons_zero]
        refine Lim.stepR 8 (fun _ => trivial) rfl (by kernel_rfl) (fun _ _ _ _ h => h) hC rfl ?_; apply Exists.intro; refine ⟨?_, ?_⟩
        ·rintro w ⟨r1, r2, r3, r4, r5⟩; go_simp; try with_reducible rfl
        simp only [Act.put, List.setIfInBounds_toArray, List.set_cons_succ, List.set_cons_zero]
        refine Lim.stepR 9 (fun _ => trivial) rfl (by kernel_rfl) (fun _ _ _ _ h => h) hC rfl ?_; apply Exists.intro; refine ⟨?_, ?_⟩
        ·rintro w ⟨r1, r2, r3, r4, r5⟩; go_simp; try with_reducible rfl
        simp only [Act.put, List.setIfInBounds_toArray, List.set_cons_succ, List.set_cons_zero]
        refine Lim.stepR 10 (fun _ => trivial) rfl (by kernel_rfl) (fun _ _ _ _ h => h) hC rfl ?_; apply Exists.intro; refine ⟨?_, ?_⟩
        ·rintro w ⟨r1, r2, r3, r4, r5⟩; go_simp; try with_reducible rfl
        simp only [Act.put, List.setIfInBounds_toArray, List.set_cons_succ, List.set_cons_zero]
        refine Lim.stepR 11 (fun _ => trivial) rfl (by kernel_rfl) (fun _ _ _ _ h => h) hC rfl ?_; apply Exists.intro; refine ⟨?_, ?_⟩
        ·rintro w ⟨r1, r2, r3, r4, r5⟩; go_simp; try with_reducible rfl
        simp only [Act.put, List.setIfInBounds_toArray, List.set_cons_succ, List.set_cons_zero]
        refine Lim.stepR 12 (fun _ => trivial) rfl (by kernel_rfl) (fun _ _ _ _ h => h) hC rfl ?_; apply Exists.intro; refine ⟨?_, ?_⟩
        ·rintro w ⟨r1, r2, r3, r4, r5⟩; go_simp; try with_reducible rfl
        simp only [Act.put, List.setIfInBounds_toArray, List.set_cons_succ, List.set_cons_zero]
        refine Lim.stepR 13 (fun _ => trivial) rfl (by kernel_rfl) (fun _ _ _ _ h => h) hC rfl ?_; apply Exists.intro; refine ⟨?_, ?_⟩
        ·rintro w ⟨r1, r2, r3, r4, r5⟩; go_simp; try with_reducible rfl
        simp only [Act.put, List.setIfInBounds_toArray, List.set_cons_succ, List.set_cons_zero]
        refine Lim.stepS 14 (fun _ => trivial) rfl (by kernel_rfl) (fun _ _ _ _ h => h) hC rfl ?_
        simp only [Act.put, List.setIfInBounds_toArray, List.set_cons_succ, List.set_cons_zero]
        refine Lim.stepS 15 (fun _ => trivial) rfl (by kernel_rfl) (fun _ _ _ _ h => h) hC rfl ?_
        simp only [Act.put, List.setIfInBounds_toArray, List.set_cons_succ, List.set_cons_zero]
        refine Lim.stepS 16 (fun _ => trivial) rfl (by kernel_rfl) (fun _ _ _ _ h => h) hC rfl ?_
        simp only [Act.put, List.setIfInBounds_toArray, List.set_cons_succ, List.set_cons_zero]
        refine Lim.stepS 17 (fun _ => trivial) rfl (by kernel_rfl) (fun _ _ _ _ h => h) hC rfl ?_
        simp only [Act.put, List.setIfInBounds_toArray, List.set_cons_succ, List.set_cons_zero]
        refine Lim.stepS 18 (fun _ => trivial) rfl (by kernel_rfl) (fun _ _ _ _ h => h) hC rfl ?_
        simp only [Act.put, List.setIfInBounds_toArray, List.set_cons_succ, List.set_cons_zero]
        refine Lim.stepS 19 (fun _ => trivial) rfl (by kernel_rfl) (fun _ _ _ _ h => h) hC rfl ?_
        simp only [Act.put, List.setIfInBounds_toArray, List.set_cons_succ, List.set_cons_zero]
        refine Lim.stepS 20 (fun _ => trivial) rfl (by kernel_rfl) (fun _ _ _ _ h => h) hC rfl ?_
        simp only [Act.put, List.setIfInBounds_toArray, List.set_cons_succ, List.set_cons_zero]
        refine Lim.stepS 21 (fun _ => trivial) rfl (by kernel_rfl) (fun _ _ _ _ h => h) hC rfl ?_
        simp only [Act.put, List.setIfInBounds_toArray, List.set_cons_succ, List.set_cons_zero]
        refine Lim.stepS 22 (fun _ => trivial) rfl (by kernel_rfl) (fun _ _ _ _ h => h) hC rfl ?_
        simp only [Act.put, List.setIfInBounds_toArray, List.set_cons_succ, List.set_cons_zero]
        refine Lim.stepR 23 (fun _ => trivial) rfl (by kernel_rfl) (fun _ _ _ _ h => h) hC rfl ?_; apply Exists.intro; refine ⟨?_, ?_⟩
        ·rintro w ⟨r1, r2, r3, r4, r5⟩; go_simp; try with_reducible rfl
        simp only [Act.put, List.setIfInBounds_toArray, List.set_cons_succ, List.set_cons_zero]
        refine Lim.stepD (by kernel_rfl) ?_
        clear hC
        go_wp2_with fail
        go_ret2
        exact HF2.out false _ HP.out.drew ⟨fun h => (by cases h), fun h => by
         have h1 := (HLI.out.1 h).2.1
         rw [HG.out.1, ← HU.out.1] at h1
         exact absurd h1 HUI.out⟩
end Go.Proofs.Ytkjcnkkmhkcddaa
