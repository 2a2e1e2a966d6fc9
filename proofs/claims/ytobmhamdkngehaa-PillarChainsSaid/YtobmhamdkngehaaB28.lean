/-
  Parts of the proof, in the order in which they build: RsB.
-/
import Derived.Test.YtobmhamdkngehaaA27
import Derived.Test.YtobmhamdkngehaaA28
set_option linter.unusedVariables false
set_option linter.unusedSimpArgs false
namespace Go.Proofs.Ytobmhamdkngehaa
open Go.RowKit Go.Shelf
open Lim

set_option maxRecDepth 20000 in
set_option maxHeartbeats 4000000 in
theorem rReal_any {B : Nat} {p : Pf} {av gv : Value} {v : Value} {xs : List Int} {bd i j : Int} {w : World} (hB : B ≤ w.heap.size) (ha : RS B w av p.ats.length (ints p.ats)) (hg : RS B w gv p.gr.length (spans p.gr)) (hv : RS B w v xs.length (ints xs)) (hm : xs.length ≤ 1000) :
    Calls Try.prog 49 #[.agg #[av, gv, .int .i64 p.tall, .int .i64 p.lo, .int .i64 p.hi], v, .int .i64 bd, .int .i64 i, .int .i64 j] w fun e w' => e = .returned (realAns p xs bd i j) ∧ Below w.heap.size w w' := by
  have h1g : gv.oneCell' = true := by obtain ⟨a, c, rfl, -⟩ := hg; rfl
  have HRG := Lib.hid (And.intro hB (And.intro ha hg))
  obtain ⟨a, ac, rfl, hac⟩ := ha
  obtain ⟨n, hn⟩ : ∃ x, x = p.ats.length := ⟨_, rfl⟩
  have HN : Hid (n = p.n) := Lib.hid hn
  obtain ⟨tl, htl⟩ : ∃ x, x = p.tall := ⟨_, rfl⟩
  obtain ⟨lo, hlo⟩ : ∃ x, x = p.lo := ⟨_, rfl⟩
  obtain ⟨hi, hhi⟩ : ∃ x, x = p.hi := ⟨_, rfl⟩
  have HT := Lib.hid (And.intro htl (And.intro hlo hhi))
  have HCK : Hid (∀ W, Below w.heap.size w W → Calls Try.prog 47 #[.agg #[.slice a n ac, gv, .int .i64 tl, .int .i64 lo, .int .i64 hi]] W fun e w' => e = .returned (.int .i64 p.err) ∧ Below W.heap.size W w') := Lib.hid fun W hW => by
    rw [hn, htl, hlo, hhi]
    exact rCheck_any (Nat.le_trans HRG.out.1 hW.size) (HRG.out.2.1.below (hW.mono HRG.out.1)) (HRG.out.2.2.below (hW.mono HRG.out.1))
  have HSR : Hid (∀ (hp : p.Ok) (i j : Nat) W, Below w.heap.size w W → i < p.n → j < p.n → Calls Try.prog 92 #[.agg #[.slice a n ac, gv, .int .i64 tl, .int .i64 lo, .int .i64 hi], .int .i64 (i : Int), .int .i64 (j : Int)] W fun e w' => e = .returned (.bool (p.sure i j)) ∧ Below W.heap.size W w') := Lib.hid fun hp i j W hW h1 h2 => by
    rw [hn, htl, hlo, hhi]
    exact rsure_any hp h1 h2 (Nat.le_trans HRG.out.1 hW.size) (HRG.out.2.1.below (hW.mono HRG.out.1)) (HRG.out.2.2.below (hW.mono HRG.out.1))
  have HV := Lib.hid hv
  obtain ⟨va, vc, rfl, -⟩ := hv
  obtain ⟨m, hmm⟩ : ∃ x, x = xs.length := ⟨_, rfl⟩
  have HM : Hid (m = xs.length) := Lib.hid hmm
  have HCLR : Hid (p.Ok → truthB p xs = true → inR bd p.lo p.hi = true → xs.length = p.n → ∀ i j : Nat, i < p.n → j < p.n → ∀ W, Below w.heap.size w W → Calls Try.prog 90 #[.agg #[.slice a n ac, gv, .int .i64 tl, .int .i64 lo, .int .i64 hi], .slice va m vc, .slice va m vc, .int .i64 bd, .int .i64 (i : Int), .int .i64 (j : Int)] W fun e w' => e = .returned (.bool ((p.own xs bd).sees false true i j)) ∧ Below W.heap.size W w') := Lib.hid fun hp h1 h2 h3 i j hi' hj' W hW => by
    have h4 := (HRG.out.2.1.below (hW.mono HRG.out.1)).mono (Nat.le_trans HRG.out.1 hW.size)
    have h5 := (HV.out.below (hW.mono HRG.out.1)).mono (Nat.le_trans HRG.out.1 hW.size)
    have e1 : ∀ b, ((p.own xs bd).gr.map (endOf b)) = xs := fun b => by
      show (xs.map (fun x => (x, x))).map (endOf b) = xs
      rw [List.map_map]
      have : (endOf b ∘ fun x : Int => (x, x)) = id := by funext x; cases b <;> rfl
      rw [this, List.map_id]
    have h6 := rclear_any (p := p.own xs bd) (gv := gv) (hh := false) (bh := true) (lo := lo) (hi := hi) (w := W) (B := W.heap.size) (av := .slice a p.ats.length ac) (hv := .slice va xs.length vc) (sv := .slice va xs.length vc) (own_ok hp h3 h1 h2) (i := i) (j := j) hi' hj' (Nat.le_refl _) h4 (by rw [e1, show (p.own xs bd).n = xs.length from h3.symm]; exact h5) (by rw [e1, show (p.own xs bd).n = xs.length from h3.symm]; exact h5)
    rw [hn, htl, hmm]
    exact h6
  rw [← hmm]
  rw [← hn, ← htl, ← hlo, ← hhi]
  have HMB : Hid (Below w.heap.size w (w.alloc (.cells #[.slice a n ac, gv, .int .i64 tl, .int .i64 lo, .int .i64 hi] 35))) := Lib.hid ((Below.refl _ w).alloc (Nat.le_refl _) _)
  have HM : Hid ((fun W => (W.cell? ⟨w.heap.size, 0, none⟩ = some (.slice a n ac) ∧ W.cell? ⟨w.heap.size, 1, none⟩ = some gv ∧ W.cell? ⟨w.heap.size, 2, none⟩ = some (.int .i64 tl) ∧ W.cell? ⟨w.heap.size, 3, none⟩ = some (.int .i64 lo) ∧ W.cell? ⟨w.heap.size, 4, none⟩ = some (.int .i64 hi))) (w.alloc (.cells #[.slice a n ac, gv, .int .i64 tl, .int .i64 lo, .int .i64 hi] 35))) := Lib.hid ⟨by simp [go_sem], by simp [go_sem], by simp [go_sem], by simp [go_sem], by simp [go_sem]⟩
  clear hac hn htl hlo hhi hB hg hmm hm
  go_enter Try.func49, Try.ntmps49
  go_upto_region 1 with (fail)
  obtain ⟨q, hq⟩ : ∃ q, q = w.heap.size := ⟨_, rfl⟩
  have HQ := Lib.hid hq
  rw [← hq] at HM
  simp only [← hq]
  clear hq
  generalize w.alloc (.cells #[.slice a n ac, gv, .int .i64 tl, .int .i64 lo, .int .i64 hi] 35) = w1 at HM HMB ⊢
  obtain ⟨k0, k1, k2, k3, k4⟩ := HM.out
  clear HM
  go_wp2_with fail
  refine (HCK.out _ HMB.out).mono ?_
  rintro e w2 ⟨rfl, hb2⟩
  replace k0 := hb2.on k0
  replace k1 := hb2.on k1
  replace k2 := hb2.on k2
  replace k3 := hb2.on k3
  replace k4 := hb2.on k4
  have HB2 : Hid (Below w.heap.size w w2) := Lib.hid (HMB.out.trans (hb2.mono HMB.out.size))
  clear hb2 HMB HCK
  obtain ⟨er, her⟩ : ∃ x, x = p.err := ⟨_, rfl⟩
  rw [← her]
  have HER := Lib.hid her
  by_cases he : er = 0
  · have d1 : (er != 0) = false := by rw [he]; rfl
    have HOK : Hid (p.err = 0 ∧ p.Ok) := Lib.hid ⟨by rw [← her, he], err_ok (by rw [← her, he])⟩
    have HN40 : Hid (2 ≤ n ∧ n ≤ 40) := Lib.hid ⟨by rw [HN.out]; exact HOK.out.2.n2, by rw [HN.out]; exact HOK.out.2.n40⟩
    clear he her
    by_cases hmn : m = n
    · obtain rfl : n = m := hmn.symm
      have d2 : ((n : Int) != (n : Int)) = false := by simp
      go_wp2_with fail
      refine (rtwo_any (i := i) (j := j) h1g (by have := HN40.out; omega)).mono ?_
      rintro e w3 ⟨rfl, hb3⟩
      replace k0 := hb3.on k0
      replace k1 := hb3.on k1
      replace k2 := hb3.on k2
      replace k3 := hb3.on k3
      replace k4 := hb3.on k4
      have HB3 : Hid (Below w.heap.size w w3) := Lib.hid (HB2.out.trans (hb3.mono HB2.out.size))
      have HML : Hid (xs.length = p.n ∧ n = n) := Lib.hid ⟨by rw [← HM.out, HN.out], rfl⟩
      clear hb3 HB2
      cases h2 : twoS n i j with
      | false =>
        rw [if_neg (by decide)]
        have HE : Hid (realAns p xs bd i j = .tuple #[.bool false, .int .i64 2]) := Lib.hid (by unfold realAns; rw [if_neg (fun h => h HOK.out.1), if_neg (fun h => by rw [← HN.out, h2] at h; cases h.2)])
        clear h2 k0 k1 k2 k3 k4
        go_wp2
        go_ret2
        exact ⟨by rw [HE.out]; rfl, HB3.out⟩
      | true =>
        rw [if_pos rfl]
        have h3 : 0 ≤ i ∧ i < p.n ∧ 0 ≤ j ∧ j < p.n := by
          have h4 := h2
          unfold twoS at h4
          rw [Bool.and_eq_true, Bool.and_eq_true, inR_iff, inR_iff] at h4
          have := HN.out
          omega
        obtain ⟨i', rfl⟩ : ∃ x : Nat, i = (x : Int) := ⟨i.toNat, by omega⟩
        obtain ⟨j', rfl⟩ : ∃ x : Nat, j = (x : Int) := ⟨j.toNat, by omega⟩
        have HE : Hid (realAns p xs bd i' j' = if truthB p xs = true ∧ inR bd p.lo p.hi = true then .tuple #[.bool ((p.own xs bd).sees false true i' j'), .int .i64 0] else .tuple #[.bool false, .int .i64 9]) := Lib.hid (by
          unfold realAns; rw [if_neg (fun h => h HOK.out.1), if_pos ⟨HML.out.1, by rw [← HN.out]; exact h2⟩]; rfl)
        have HIJ : Hid (i' < p.n ∧ j' < p.n) := Lib.hid (by omega)
        obtain ⟨g0, gc, hgv, hgc⟩ := HRG.out.2.2
        obtain ⟨gb, go, rfl, hgb, hgs⟩ := hgc (spans_ne (by have := HOK.out.2.gn; have := HOK.out.2.n2; omega))
        rw [HOK.out.2.gn, ← HN.out] at hgv
        obtain ⟨v0, vc', hvv, hvc⟩ := HV.out
        cases hvv
        obtain ⟨vb, vo, rfl, hvb, hvs⟩ := hvc (ints_ne (by have := HML.out.1; have := HOK.out.2.n2; omega))
        have HGV := Lib.hid hgv
        have HX : Hid (∀ W, Below w.heap.size w W → ∀ k, k < n → W.cell? ⟨vb, vo + k, none⟩ = some (.int .i64 (xs.getD k 0)) ∧ W.cell? ⟨gb, go + k * 2, none⟩ = some (.int .i64 (p.g k).1) ∧ W.cell? ⟨gb, go + k * 2 + 1, none⟩ = some (.int .i64 (p.g k).2)) := Lib.hid (fun W hW k hk => by
          have hkx : k < xs.length := by have := HML.out; have := HN.out; omega
          have hkg : k < p.gr.length := by have := HOK.out.2.gn; have := HN.out; omega
          have e : p.g k = p.gr[k] := by unfold Pf.g; rw [List.getD_eq_getElem?_getD, List.getElem?_eq_getElem hkg]; rfl
          have h1 := hvs k _ (ints_at' xs k hkx)
          rw [← List.getD_eq_getElem?_getD] at h1
          rw [hW.cell (p := ⟨vb, vo + k, none⟩) (Nat.lt_of_lt_of_le hvb HRG.out.1), hW.cell (p := ⟨gb, go + k * 2, none⟩) (Nat.lt_of_lt_of_le hgb HRG.out.1), hW.cell (p := ⟨gb, go + k * 2 + 1, none⟩) (Nat.lt_of_lt_of_le hgb HRG.out.1), e]
          exact ⟨h1, hgs _ _ (spans_lo _ k hkg), hgs _ _ (spans_hi _ k hkg)⟩)
        clear h2 h3 hgv hgb hgs hgc hvb hvs hvc
        go_wp2_with fail
        go_loopw [13] (fun iv W => ∃ k : Nat, k ≤ n ∧ iv = .int .i64 (k : Int) ∧ Hid (Below w3.heap.size w3 W) ∧ Hid (∀ x, x < k → inR (xs.getD x 0) (p.g x).1 (p.g x).2 = true)) (fun iv _ => n - (intOf iv).toNat)
        case atStart => exact ⟨0, Nat.zero_le _, rfl, Lib.hid (Below.refl _ _), Lib.hid (by intro x hx; omega)⟩
        case round =>
          obtain ⟨k, hk, rfl, hbr, hin⟩ := hrel
          have HBR : Hid (Below w.heap.size w wr) := Lib.hid (HB3.out.trans (hbr.out.mono HB3.out.size))
          by_cases hlt : k < n
          · have hkn : k < n := by have := HML.out.2; omega
            obtain ⟨x, hx⟩ : ∃ x, x = xs.getD k 0 := ⟨_, rfl⟩
            obtain ⟨y1, hy1⟩ : ∃ y, y = (p.g k).1 := ⟨_, rfl⟩
            obtain ⟨y2, hy2⟩ : ∃ y, y = (p.g k).2 := ⟨_, rfl⟩
            have hC : (fun W => W.cell? ⟨q, 1, none⟩ = some (.slice (some ⟨gb, go, none⟩) n gc) ∧ W.cell? ⟨vb, vo + k, none⟩ = some (.int .i64 x) ∧ W.cell? ⟨gb, go + k * 2, none⟩ = some (.int .i64 y1) ∧ W.cell? ⟨gb, go + k * 2 + 1, none⟩ = some (.int .i64 y2)) wr.drew := by
              have h1 := HX.out wr HBR.out k hkn
              rw [← hx, ← hy1, ← hy2] at h1
              have h2 := hbr.out.on k1
              rw [HGV.out] at h2
              exact ⟨by simpa using h2, by simpa using h1.1, by simpa using h1.2.1, by simpa using h1.2.2⟩
            obtain ⟨z, hz⟩ : ∃ z, inR x y1 y2 = z := ⟨_, rfl⟩
            have HZX := Lib.hid hz
            have HXY : Hid (inR (xs.getD k 0) (p.g k).1 (p.g k).2 = z) := Lib.hid (by rw [← hx, ← hy1, ← hy2]; exact hz)
            have HB4 : Hid (Below w3.heap.size w3 wr.drew) := Lib.hid hbr.out.drew
            have hk64 : k < 1000 := by have := HN40.out; omega
            clear hz hx hy1 hy2 k0 k1 k2 k3 k4 HBR
            go_wp2_with fail
            generalize hW0 : wr.drew = w4 at HB4 hC
            refine Lim.regC' (fun W => W.cell? ⟨q, 1, none⟩ = some (.slice (some ⟨gb, go, none⟩) n gc) ∧ W.cell? ⟨vb, vo + k, none⟩ = some (.int .i64 x) ∧ W.cell? ⟨gb, go + k * 2, none⟩ = some (.int .i64 y1) ∧ W.cell? ⟨gb, go + k * 2 + 1, none⟩ = some (.int .i64 y2)) [] #[false, false, false, false, false, false, false, false, false, false, false, false, false, false, false, false, false] (by kernel_rfl) rfl ?_
            rw [hW0]; clear hW0
            refine Lim.stepR 0 (fun _ => trivial) rfl (by kernel_rfl) (fun _ _ _ _ h => h) hC rfl ?_; apply Exists.intro; refine ⟨?_, ?_⟩
            · rintro w ⟨r0, r1, r2, r3⟩; go_simp; try with_reducible rfl
            simp only [Act.put, List.setIfInBounds_toArray, List.set_cons_succ, List.set_cons_zero]
            refine Lim.stepR 1 (fun _ => trivial) rfl (by kernel_rfl) (fun _ _ _ _ h => h) hC rfl ?_; apply Exists.intro; refine ⟨?_, ?_⟩
            · rintro w ⟨r0, r1, r2, r3⟩; go_simp; try with_reducible rfl
            simp only [Act.put, List.setIfInBounds_toArray, List.set_cons_succ, List.set_cons_zero]
            refine Lim.stepR 2 (fun _ => trivial) rfl (by kernel_rfl) (fun _ _ _ _ h => h) hC rfl ?_; apply Exists.intro; refine ⟨?_, ?_⟩
            · rintro w ⟨r0, r1, r2, r3⟩; go_simp; try with_reducible rfl
            simp only [Act.put, List.setIfInBounds_toArray, List.set_cons_succ, List.set_cons_zero]
            refine Lim.stepR 3 (fun _ => trivial) rfl (by kernel_rfl) (fun _ _ _ _ h => h) hC rfl ?_; apply Exists.intro; refine ⟨?_, ?_⟩
            · rintro w ⟨r0, r1, r2, r3⟩; go_simp; try with_reducible rfl
            simp only [Act.put, List.setIfInBounds_toArray, List.set_cons_succ, List.set_cons_zero]
            refine Lim.stepR 4 (fun _ => trivial) rfl (by kernel_rfl) (fun _ _ _ _ h => h) hC rfl ?_; apply Exists.intro; refine ⟨?_, ?_⟩
            · rintro w ⟨r0, r1, r2, r3⟩; go_simp; try with_reducible rfl
            simp only [Act.put, List.setIfInBounds_toArray, List.set_cons_succ, List.set_cons_zero]
            refine Lim.stepR 5 (fun _ => trivial) rfl (by kernel_rfl) (fun _ _ _ _ h => h) hC rfl ?_; apply Exists.intro; refine ⟨?_, ?_⟩
            · rintro w ⟨r0, r1, r2, r3⟩; go_simp; try with_reducible rfl
            simp only [Act.put, List.setIfInBounds_toArray, List.set_cons_succ, List.set_cons_zero]
            refine Lim.stepR 6 (fun _ => trivial) rfl (by kernel_rfl) (fun _ _ _ _ h => h) hC rfl ?_; apply Exists.intro; refine ⟨?_, ?_⟩
            · rintro w ⟨r0, r1, r2, r3⟩; go_simp; try with_reducible rfl
            simp only [Act.put, List.setIfInBounds_toArray, List.set_cons_succ, List.set_cons_zero]
            refine Lim.stepR 7 (fun _ => trivial) rfl (by kernel_rfl) (fun _ _ _ _ h => h) hC rfl ?_; apply Exists.intro; refine ⟨?_, ?_⟩
            · rintro w ⟨r0, r1, r2, r3⟩; go_simp; try with_reducible rfl
            simp only [Act.put, List.setIfInBounds_toArray, List.set_cons_succ, List.set_cons_zero]
            refine Lim.stepR 8 (fun _ => trivial) rfl (by kernel_rfl) (fun _ _ _ _ h => h) hC rfl ?_; apply Exists.intro; refine ⟨?_, ?_⟩
            · rintro w ⟨r0, r1, r2, r3⟩; go_simp; try with_reducible rfl
            simp only [Act.put, List.setIfInBounds_toArray, List.set_cons_succ, List.set_cons_zero]
            refine Lim.stepR 9 (fun _ => trivial) rfl (by kernel_rfl) (fun _ _ _ _ h => h) hC rfl ?_; apply Exists.intro; refine ⟨?_, ?_⟩
            · rintro w ⟨r0, r1, r2, r3⟩; go_simp; try with_reducible rfl
            simp only [Act.put, List.setIfInBounds_toArray, List.set_cons_succ, List.set_cons_zero]
            refine Lim.stepR 10 (fun _ => trivial) rfl (by kernel_rfl) (fun _ _ _ _ h => h) hC rfl ?_; apply Exists.intro; refine ⟨?_, ?_⟩
            · rintro w ⟨r0, r1, r2, r3⟩; go_simp; try with_reducible rfl
            simp only [Act.put, List.setIfInBounds_toArray, List.set_cons_succ, List.set_cons_zero]
            refine Lim.stepR 11 (fun _ => trivial) rfl (by kernel_rfl) (fun _ _ _ _ h => h) hC rfl ?_; apply Exists.intro; refine ⟨?_, ?_⟩
            · rintro w ⟨r0, r1, r2, r3⟩; go_simp; try with_reducible rfl
            simp only [Act.put, List.setIfInBounds_toArray, List.set_cons_succ, List.set_cons_zero]
            refine Lim.stepR 12 (fun _ => trivial) rfl (by kernel_rfl) (fun _ _ _ _ h => h) hC rfl ?_; apply Exists.intro; refine ⟨?_, ?_⟩
            · rintro w ⟨r0, r1, r2, r3⟩; go_simp; try with_reducible rfl
            simp only [Act.put, List.setIfInBounds_toArray, List.set_cons_succ, List.set_cons_zero]
            refine Lim.stepR 13 (fun _ => trivial) rfl (by kernel_rfl) (fun _ _ _ _ h => h) hC rfl ?_; apply Exists.intro; refine ⟨?_, ?_⟩
            · rintro w ⟨r0, r1, r2, r3⟩; go_simp; try with_reducible rfl
            simp only [Act.put, List.setIfInBounds_toArray, List.set_cons_succ, List.set_cons_zero]
            refine Lim.stepR 14 (fun _ => trivial) rfl (by kernel_rfl) (fun _ _ _ _ h => h) hC rfl ?_; apply Exists.intro; refine ⟨?_, ?_⟩
            · rintro w ⟨r0, r1, r2, r3⟩; go_simp; try with_reducible rfl
            simp only [Act.put, List.setIfInBounds_toArray, List.set_cons_succ, List.set_cons_zero]
            refine Lim.stepR 15 (fun _ => trivial) rfl (by kernel_rfl) (fun _ _ _ _ h => h) hC rfl ?_; apply Exists.intro; refine ⟨?_, ?_⟩
            · rintro w ⟨r0, r1, r2, r3⟩; go_simp; try with_reducible rfl
            simp only [Act.put, List.setIfInBounds_toArray, List.set_cons_succ, List.set_cons_zero]
            refine Lim.stepE 16 (fun _ => trivial) rfl (by kernel_rfl) rfl (fun K hK => ?_)   -- E call
            go_simp
            refine ⟨rfl, (callsIn_wide.2 (outside_any _ _ _ _)).mono ?_⟩
            rintro e w5 ⟨rfl, rfl⟩
            rw [HZX.out]
            refine hK _ _ hC ?_
            simp only [Act.put, List.setIfInBounds_toArray, List.set_cons_succ, List.set_cons_zero]
            refine Lim.stepD (by kernel_rfl) ?_
            clear hC
            have HBW4 : Hid (Below w.heap.size w w4) := Lib.hid (HB3.out.trans (HB4.out.mono HB3.out.size))
            cases z with
            | true =>
              go_wp2
              go_roundw
              case rel =>
                refine ⟨k + 1, by omega, by go_num, HB4, Lib.hid (fun x hx => ?_)⟩
                by_cases e : x = k
                · rw [e]; exact HXY.out
                · exact hin.out x (by omega)
              case measure => simp [intOf]; omega
            | false =>
              have HF : Hid (truthB p xs = false) := Lib.hid (by
                rw [Bool.eq_false_iff]
                intro h
                have := (List.all_eq_true.1 h) k (List.mem_range.2 (by rw [← HN.out]; exact hkn))
                rw [HXY.out] at this
                cases this)
              go_wp2
              go_ret2
              exact ⟨by rw [HE.out, if_neg (fun h => by rw [HF.out] at h; cases h.1)]; rfl, HBW4.out⟩
          · have hkm : n = k := by omega
            subst hkm
            have HTB : Hid (truthB p xs = true) := Lib.hid (List.all_eq_true.2 (fun x hx => hin.out x (by have := List.mem_range.1 hx; have := HML.out.2; have := HN.out; omega)))
            replace k0 := hbr.out.on k0
            replace k1 := hbr.out.on k1
            replace k2 := hbr.out.on k2
            replace k3 := hbr.out.on k3
            replace k4 := hbr.out.on k4
            go_wp2_with fail
            refine (outside_any _ _ _ _).mono ?_
            rintro e w6 ⟨rfl, rfl⟩
            obtain ⟨z, hz⟩ : ∃ z, inR bd lo hi = z := ⟨_, rfl⟩
            rw [hz]
            have HZ : Hid (inR bd p.lo p.hi = z) := Lib.hid (by rw [← HT.out.2.1, ← HT.out.2.2]; exact hz)
            clear hz hin
            cases z with
            | false =>
              clear k0 k1 k2 k3 k4
              go_wp2
              go_ret2
              exact ⟨by rw [HE.out, if_neg (fun h => by rw [HZ.out] at h; cases h.2)]; rfl, HBR.out⟩
            | true =>
              have HCL := Lib.hid (HCLR.out HOK.out.2 HTB.out HZ.out HML.out.1 i' j' HIJ.out.1 HIJ.out.2 _ HBR.out)
              go_wp2_with fail
              refine HCL.out.mono ?_
              rintro e w7 ⟨rfl, hb7⟩
              have HB7 : Hid (Below w.heap.size w w7) := Lib.hid (HBR.out.trans (hb7.mono HBR.out.size))
              clear hb7 k0 k1 k2 k3 k4 HCL HCLR
              obtain ⟨s, hs⟩ : ∃ s, s = (p.own xs bd).sees false true i' j' := ⟨_, rfl⟩
              rw [← hs]
              have HS : Hid (realAns p xs bd i' j' = .tuple #[.bool s, .int .i64 0]) := Lib.hid (by rw [HE.out, if_pos ⟨HTB.out, HZ.out⟩, hs])
              clear hs
              go_wp2
              go_ret2
              exact ⟨by rw [HS.out]; rfl, HB7.out⟩
    · have d2 : ((m : Int) != (n : Int)) = true := by rw [bne_iff_ne]; omega
      have HE : Hid (realAns p xs bd i j = .tuple #[.bool false, .int .i64 2]) := Lib.hid (by unfold realAns; rw [if_neg (fun h => h HOK.out.1), if_neg (fun h => hmn (by rw [HM.out, h.1, HN.out]))])
      clear hmn
      go_wp2
      go_ret2
      exact ⟨by rw [HE.out]; rfl, HB2.out⟩
  · have d1 : (er != 0) = true := by rw [bne_iff_ne]; exact he
    have HNE : Hid (p.err ≠ 0 ∧ p.err = er) := Lib.hid ⟨by rw [← her]; exact he, her.symm⟩
    clear k0 k1 k2 k3 k4 her he
    have HE : Hid (realAns p xs bd i j = .tuple #[.bool false, .int .i64 er]) := Lib.hid (by unfold realAns; rw [if_pos HNE.out.1, HNE.out.2])
    go_wp2
    go_ret2
    exact ⟨by rw [HE.out]; rfl, HB2.out⟩
end Go.Proofs.Ytobmhamdkngehaa
