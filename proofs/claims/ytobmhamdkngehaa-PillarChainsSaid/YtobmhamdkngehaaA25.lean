/-
  Parts of the proof, in the order in which they build: RpG.
-/
import Derived.Test.YtobmhamdkngehaaA22
import Derived.Test.YtobmhamdkngehaaA24
import Derived.Test.YtobmhamdkngehaaA18
set_option linter.unusedVariables false
set_option linter.unusedSimpArgs false
namespace Go.Proofs.Ytobmhamdkngehaa
open Go.RowKit Go.Shelf
open Lim

set_option maxRecDepth 20000 in
set_option maxHeartbeats 4000000 in
theorem rMend_any {B : Nat} {p : Pf} {av gv v : Value} {xs : List Int} {lost : Int} {w : World} (hB : B ≤ w.heap.size) (ha : RS B w av p.ats.length (ints p.ats)) (hg : RS B w gv p.gr.length (spans p.gr)) (hv : RS B w v xs.length (ints xs)) (hcap : ∀ a c, v = .slice a xs.length c → xs.length ≤ c) (hm : xs.length ≤ 1000) :
    Calls Try.prog 18 #[.agg #[av, gv, .int .i64 p.tall, .int .i64 p.lo, .int .i64 p.hi], v, .int .i64 lost] w (MendAns w p xs lost) := by
  have h1a : av.oneCell' = true := by obtain ⟨a, c, rfl, -⟩ := ha; rfl
  have h1g : gv.oneCell' = true := by obtain ⟨a, c, rfl, -⟩ := hg; rfl
  have HXS := Lib.hid (And.intro hv hm)
  have HR := Lib.hid (And.intro hB (And.intro ha hg))
  obtain ⟨tl, htl⟩ : ∃ x, x = p.tall := ⟨_, rfl⟩
  obtain ⟨lo, hlo⟩ : ∃ x, x = p.lo := ⟨_, rfl⟩
  obtain ⟨hi, hhi⟩ : ∃ x, x = p.hi := ⟨_, rfl⟩
  have HOP : Hid (∀ W, Below w.heap.size w W → Calls Try.prog 56 #[.agg #[av, gv, .int .i64 tl, .int .i64 lo, .int .i64 hi], v] W fun e w' => e = .returned (holdsAns p xs) ∧ Below W.heap.size W w') := Lib.hid fun W hW => by
    rw [htl, hlo, hhi]
    exact rHolds_any (Nat.le_trans hB hW.size) (ha.below (hW.mono hB)) (hg.below (hW.mono hB)) (hv.below (hW.mono hB)) hm
  have HBS0 : Hid (∀ (hp : p.Ok) (f0 f1 f2 : Nat) W, Below w.heap.size w W → f0 < f1 → f1 < f2 → f2 < p.n → Calls Try.prog 67 #[.agg #[av, gv, .int .i64 tl, .int .i64 lo, .int .i64 hi], .int .i64 (f0 : Int), .int .i64 (f2 : Int), .int .i64 (f1 : Int)] W fun e w' => ∃ v L, e = .returned v ∧ RS w'.heap.size w' v L.length (ints (L.map Int.ofNat)) ∧ (L ≠ [] → IsBest p.n p.sure (f1 : Int) f2 f0 L) ∧ (L = [] → ∀ M, ¬ Ch p.n p.sure (f1 : Int) f2 f0 M) ∧ Below W.heap.size W w') := Lib.hid fun hp f0 f1 f2 W hW h1 h2 h3 => by
    rw [htl, hlo, hhi]
    exact rbest_any hp (by omega) h3 (by omega) (Nat.le_trans hB hW.size) (ha.below (hW.mono hB)) (hg.below (hW.mono hB))
  rw [← htl, ← hlo, ← hhi]
  obtain ⟨va, vc, rfl, -⟩ := hv
  obtain ⟨m, hml⟩ : ∃ m, m = xs.length := ⟨_, rfl⟩
  have hvc0 : xs.length ≤ vc := hcap _ _ rfl
  rw [← hml] at HXS HOP hvc0 ⊢
  clear hcap
  have m9 : m ≤ 1000 := HXS.out.2
  have HML := Lib.hid hml
  have HMB : Hid (Below w.heap.size w (w.alloc (.cells #[av, gv, .int .i64 tl, .int .i64 lo, .int .i64 hi] 35))) := Lib.hid ((Below.refl _ w).alloc (Nat.le_refl _) _)
  have HM : Hid ((fun W => (W.cell? ⟨w.heap.size, 0, none⟩ = some av ∧ W.cell? ⟨w.heap.size, 1, none⟩ = some gv ∧ W.cell? ⟨w.heap.size, 2, none⟩ = some (.int .i64 tl) ∧ W.cell? ⟨w.heap.size, 3, none⟩ = some (.int .i64 lo) ∧ W.cell? ⟨w.heap.size, 4, none⟩ = some (.int .i64 hi))) (w.alloc (.cells #[av, gv, .int .i64 tl, .int .i64 lo, .int .i64 hi] 35))) := Lib.hid ⟨by simp [go_sem], by simp [go_sem], by simp [go_sem], by simp [go_sem], by simp [go_sem]⟩
  clear hB htl hlo hhi ha hg hm hml
  go_enter Try.func18, Try.ntmps18
  go_upto_region 1 with (fail)
  obtain ⟨q, hq⟩ : ∃ q, q = w.heap.size := ⟨_, rfl⟩
  rw [← hq] at HM
  simp only [← hq]
  clear hq
  generalize w.alloc (.cells #[av, gv, .int .i64 tl, .int .i64 lo, .int .i64 hi] 35) = w1 at HM HMB ⊢
  obtain ⟨k0, k1, k2, k3, k4⟩ := HM.out
  clear HM
  go_wp2_with fail
  refine (HOP.out _ HMB.out).mono ?_
  rintro e w2 ⟨rfl, hb2⟩
  have HB2 : Hid (Below w.heap.size w w2) := Lib.hid (HMB.out.trans (hb2.mono HMB.out.size))
  replace k0 := hb2.on k0
  replace k1 := hb2.on k1
  replace k2 := hb2.on k2
  replace k3 := hb2.on k3
  replace k4 := hb2.on k4
  clear hb2 HOP HMB
  by_cases he : p.err = 0
  · by_cases hi2 : inAll p.n xs = true
    · have HP : Hid p.Ok := Lib.hid (err_ok he)
      have HE := Lib.hid (And.intro he hi2)
      rw [holdsAns, if_neg (fun h => h he), if_pos hi2]
      clear he hi2
      cases hh : holdsP p xs with
      | false =>
        have HH := Lib.hid hh
        clear hh k0 k1 k2 k3 k4
        go_wp2
        go_ret2
        exact ⟨HB2.out, _, _, [], rfl, ownsRow_zero _ _ _ _, .inr (.inr (.inl ⟨HE.out.1, HE.out.2, HH.out, rfl, rfl⟩))⟩
      | true =>
        have HH := Lib.hid hh
        clear hh
        obtain ⟨l2, hl2⟩ : ∃ x, x = (m : Int) - 2 := ⟨_, rfl⟩
        have hw2 : IntKind.i64.wrap ((m : Int) - 2) = l2 := by rw [hl2]; exact IntWalk.i64_in _ (by omega)
        have HL2 := Lib.hid hl2
        clear hl2
        go_wp2_with fail
        refine (outside_any _ _ _ _).mono ?_
        rintro e w3 ⟨rfl, rfl⟩
        cases hin : inR lost 1 l2 with
        | false =>
          have HI : Hid (inR lost 1 ((xs.length : Int) - 2) = false) := Lib.hid (by rw [← HML.out, ← HL2.out]; exact hin)
          clear hin k0 k1 k2 k3 k4
          go_wp2
          go_ret2
          exact ⟨HB2.out, _, _, [], rfl, ownsRow_zero _ _ _ _, .inr (.inr (.inr (.inl ⟨HE.out.1, HE.out.2, HH.out, HI.out, rfl, rfl⟩)))⟩
        | true =>
          have HI : Hid (inR lost 1 ((xs.length : Int) - 2) = true) := Lib.hid (by rw [← HML.out, ← HL2.out]; exact hin)
          have hii := inR_iff.1 hin
          rw [HL2.out] at hii
          clear hin
          obtain ⟨k, rfl⟩ : ∃ k : Nat, lost = ((k + 1 : Nat) : Int) := ⟨lost.toNat - 1, by omega⟩
          have hkm : k + 2 < m := by omega
          obtain ⟨vb, vo, rfl, hvc⟩ : ∃ vb vo, va = some ⟨vb, vo, none⟩ ∧ Hid (∀ W, Below w.heap.size w W → (vb < B) ∧ (∀ j u, (ints xs)[j]? = some u → W.cell? ⟨vb, vo + j, none⟩ = some u) ∧ ∀ j, j < m → W.cell? ⟨vb, vo + j, none⟩ = some (.int .i64 (xs.getD j 0))) := by
            obtain ⟨a2, c2, e2, h2⟩ := HXS.out.1
            cases e2
            obtain ⟨vb, vo, rfl, h3, h4⟩ := h2 (ints_ne (by have := HML.out; omega))
            have h6 : ∀ W, Below w.heap.size w W → ∀ j u, (ints xs)[j]? = some u → W.cell? ⟨vb, vo + j, none⟩ = some u := fun W hW j u hj => by
              rw [(hW.mono HR.out.1).cell (p := ⟨vb, vo + j, none⟩) h3]; exact h4 j u hj
            refine ⟨vb, vo, rfl, Lib.hid fun W hW => ⟨h3, h6 W hW, fun j hj => ?_⟩⟩
            have h5 := h6 W hW j _ (ints_at' xs j (by have := HML.out; omega))
            rw [h5, ← List.getD_eq_getElem?_getD]
          obtain ⟨f0, hf0⟩ : ∃ f0 : Nat, xs.getD k 0 = (f0 : Int) := ⟨(xs.getD k 0).toNat, by have := inAll_at HE.out.2 (k := k) (by have := HML.out; omega); omega⟩
          obtain ⟨f1, hf1⟩ : ∃ f1 : Nat, xs.getD (k + 1) 0 = (f1 : Int) := ⟨(xs.getD (k + 1) 0).toNat, by have := inAll_at HE.out.2 (k := k + 1) (by have := HML.out; omega); omega⟩
          obtain ⟨f2, hf2⟩ : ∃ f2 : Nat, xs.getD (k + 2) 0 = (f2 : Int) := ⟨(xs.getD (k + 2) 0).toNat, by have := inAll_at HE.out.2 (k := k + 2) (by have := HML.out; omega); omega⟩
          have hf2n : f2 < p.n := by have := inAll_at HE.out.2 (k := k + 2) (by have := HML.out; omega); omega
          have hf01 : f0 < f1 ∧ f1 < f2 := by
            have h1 := holds_up HH.out (k := k) (by have := HML.out; omega)
            have h2 : xs.getD (k + 1) 0 < xs.getD (k + 2) 0 := holds_up HH.out (k := k + 1) (by have := HML.out; omega)
            omega
          have HBE : Hid (∀ W, Below w.heap.size w W → Calls Try.prog 67 #[.agg #[av, gv, .int .i64 tl, .int .i64 lo, .int .i64 hi], .int .i64 (f0 : Int), .int .i64 (f2 : Int), .int .i64 (f1 : Int)] W fun e w' => ∃ v L, e = .returned v ∧ RS w'.heap.size w' v L.length (ints (L.map Int.ofNat)) ∧ (L ≠ [] → IsBest p.n p.sure (f1 : Int) f2 f0 L) ∧ (L = [] → ∀ M, ¬ Ch p.n p.sure (f1 : Int) f2 f0 M) ∧ Below W.heap.size W w') := Lib.hid fun W hW => HBS0.out HP.out f0 f1 f2 W hW hf01.1 hf01.2 hf2n
          have hC : (fun W => (W.cell? ⟨q, 0, none⟩ = some av ∧ W.cell? ⟨q, 1, none⟩ = some gv ∧ W.cell? ⟨q, 2, none⟩ = some (.int .i64 tl) ∧ W.cell? ⟨q, 3, none⟩ = some (.int .i64 lo) ∧ W.cell? ⟨q, 4, none⟩ = some (.int .i64 hi)) ∧ W.cell? ⟨vb, vo + k, none⟩ = some (.int .i64 (f0 : Int)) ∧ W.cell? ⟨vb, vo + (k + 1), none⟩ = some (.int .i64 (f1 : Int)) ∧ W.cell? ⟨vb, vo + (k + 2), none⟩ = some (.int .i64 (f2 : Int))) w2.drew := by
            have h0 := (hvc.out w2 HB2.out).2.2 k (by omega)
            have h1 := (hvc.out w2 HB2.out).2.2 (k + 1) (by omega)
            have h2 := (hvc.out w2 HB2.out).2.2 (k + 2) (by omega)
            rw [hf0] at h0
            rw [hf1] at h1
            rw [hf2] at h2
            exact ⟨⟨by simpa using k0, by simpa using k1, by simpa using k2, by simpa using k3, by simpa using k4⟩, by simpa using h0, by simpa using h1, by simpa using h2⟩
          have HF := Lib.hid (And.intro hf0 (And.intro hf1 (And.intro hf2 (And.intro hf01 hf2n))))
          have HB4 : Hid (Below w.heap.size w w2.drew) := Lib.hid HB2.out.drew
          have e1 : IntKind.i64.wrap ((k : Int) + 1 - 1) = (k : Int) := by rw [IntWalk.i64_in _ (by omega)]; omega
          have e1' : IntKind.i64.wrap (k : Int) = (k : Int) := IntWalk.i64_in _ (by omega)
          have e2 : IntKind.i64.wrap ((k : Int) + 1 + 1) = ((k + 2 : Nat) : Int) := by rw [IntWalk.i64_in _ (by omega)]; omega
          have e3 : IntKind.i64.wrap ((k : Int) + 1 + 2) = ((k + 3 : Nat) : Int) := by rw [IntWalk.i64_in _ (by omega)]; omega
          have k1m : k + 1 < m := by omega
          have k0m : k < m := by omega
          have z1 : (0 : Int) ≤ (k : Int) + 1 := by omega
          have z2 : (0 : Int) ≤ (k : Int) + 2 := by omega
          have z3 : (k : Int) + 2 < (m : Int) := by omega
          have z4 : ((k : Int) + 2).toNat = k + 2 := by omega
          have z5 : (k : Int) + 1 < (m : Int) := by omega
          have z6 : ((k : Int) + 1).toNat = k + 1 := by omega
          clear hii hw2 hf0 hf1 hf2 hf01 hf2n k0 k1 k2 k3 k4 HBS0
          go_wp2_with fail
          generalize hW0 : w2.drew = w4 at HB4 hC
          refine Lim.regC' (fun W => (W.cell? ⟨q, 0, none⟩ = some av ∧ W.cell? ⟨q, 1, none⟩ = some gv ∧ W.cell? ⟨q, 2, none⟩ = some (.int .i64 tl) ∧ W.cell? ⟨q, 3, none⟩ = some (.int .i64 lo) ∧ W.cell? ⟨q, 4, none⟩ = some (.int .i64 hi)) ∧ W.cell? ⟨vb, vo + k, none⟩ = some (.int .i64 (f0 : Int)) ∧ W.cell? ⟨vb, vo + (k + 1), none⟩ = some (.int .i64 (f1 : Int)) ∧ W.cell? ⟨vb, vo + (k + 2), none⟩ = some (.int .i64 (f2 : Int))) [] #[false, false, false, false, false, false, false, false, false, false, false, false, false, false, false, false, false] (by kernel_rfl) rfl ?_
          rw [hW0]; clear hW0
          refine Lim.stepR 0 (fun _ => trivial) rfl (by kernel_rfl) (fun _ _ _ _ h => h) hC rfl ?_; apply Exists.intro; refine ⟨?_, ?_⟩
          · rintro w ⟨⟨r0, r1, r2, r3, r4⟩, r5, r6, r7⟩; go_simp; try with_reducible rfl
          simp only [Act.put, List.setIfInBounds_toArray, List.set_cons_succ, List.set_cons_zero]
          refine Lim.stepR 1 (fun _ => trivial) rfl (by kernel_rfl) (fun _ _ _ _ h => h) hC rfl ?_; apply Exists.intro; refine ⟨?_, ?_⟩
          · rintro w ⟨⟨r0, r1, r2, r3, r4⟩, r5, r6, r7⟩; go_simp; try with_reducible rfl
          simp only [Act.put, List.setIfInBounds_toArray, List.set_cons_succ, List.set_cons_zero]
          refine Lim.stepR 2 (fun _ => trivial) rfl (by kernel_rfl) (fun _ _ _ _ h => h) hC rfl ?_; apply Exists.intro; refine ⟨?_, ?_⟩
          · rintro w ⟨⟨r0, r1, r2, r3, r4⟩, r5, r6, r7⟩; go_simp; try with_reducible rfl
          simp only [Act.put, List.setIfInBounds_toArray, List.set_cons_succ, List.set_cons_zero]
          refine Lim.stepR 3 (fun _ => trivial) rfl (by kernel_rfl) (fun _ _ _ _ h => h) hC rfl ?_; apply Exists.intro; refine ⟨?_, ?_⟩
          · rintro w ⟨⟨r0, r1, r2, r3, r4⟩, r5, r6, r7⟩; go_simp; try with_reducible rfl
          simp only [Act.put, List.setIfInBounds_toArray, List.set_cons_succ, List.set_cons_zero]
          refine Lim.stepR 4 (fun _ => trivial) rfl (by kernel_rfl) (fun _ _ _ _ h => h) hC rfl ?_; apply Exists.intro; refine ⟨?_, ?_⟩
          · rintro w ⟨⟨r0, r1, r2, r3, r4⟩, r5, r6, r7⟩; go_simp; try with_reducible rfl
          simp only [Act.put, List.setIfInBounds_toArray, List.set_cons_succ, List.set_cons_zero]
          refine Lim.stepR 5 (fun _ => trivial) rfl (by kernel_rfl) (fun _ _ _ _ h => h) hC rfl ?_; apply Exists.intro; refine ⟨?_, ?_⟩
          · rintro w ⟨⟨r0, r1, r2, r3, r4⟩, r5, r6, r7⟩; go_simp; try with_reducible rfl
          simp only [Act.put, List.setIfInBounds_toArray, List.set_cons_succ, List.set_cons_zero]
          refine Lim.stepR 6 (fun _ => trivial) rfl (by kernel_rfl) (fun _ _ _ _ h => h) hC rfl ?_; apply Exists.intro; refine ⟨?_, ?_⟩
          · rintro w ⟨⟨r0, r1, r2, r3, r4⟩, r5, r6, r7⟩; go_simp; try with_reducible rfl
          simp only [Act.put, List.setIfInBounds_toArray, List.set_cons_succ, List.set_cons_zero]
          refine Lim.stepR 7 (fun _ => trivial) rfl (by kernel_rfl) (fun _ _ _ _ h => h) hC rfl ?_; apply Exists.intro; refine ⟨?_, ?_⟩
          · rintro w ⟨⟨r0, r1, r2, r3, r4⟩, r5, r6, r7⟩; go_simp; try with_reducible rfl
          simp only [Act.put, List.setIfInBounds_toArray, List.set_cons_succ, List.set_cons_zero]
          refine Lim.stepR 8 (fun _ => trivial) rfl (by kernel_rfl) (fun _ _ _ _ h => h) hC rfl ?_; apply Exists.intro; refine ⟨?_, ?_⟩
          · rintro w ⟨⟨r0, r1, r2, r3, r4⟩, r5, r6, r7⟩; go_simp; try with_reducible rfl
          simp only [Act.put, List.setIfInBounds_toArray, List.set_cons_succ, List.set_cons_zero]
          refine Lim.stepR 9 (fun _ => trivial) rfl (by kernel_rfl) (fun _ _ _ _ h => h) hC rfl ?_; apply Exists.intro; refine ⟨?_, ?_⟩
          · rintro w ⟨⟨r0, r1, r2, r3, r4⟩, r5, r6, r7⟩; go_simp; try with_reducible rfl
          simp only [Act.put, List.setIfInBounds_toArray, List.set_cons_succ, List.set_cons_zero]
          refine Lim.stepR 10 (fun _ => trivial) rfl (by kernel_rfl) (fun _ _ _ _ h => h) hC rfl ?_; apply Exists.intro; refine ⟨?_, ?_⟩
          · rintro w ⟨⟨r0, r1, r2, r3, r4⟩, r5, r6, r7⟩; go_simp; try with_reducible rfl
          simp only [Act.put, List.setIfInBounds_toArray, List.set_cons_succ, List.set_cons_zero]
          refine Lim.stepR 11 (fun _ => trivial) rfl (by kernel_rfl) (fun _ _ _ _ h => h) hC rfl ?_; apply Exists.intro; refine ⟨?_, ?_⟩
          · rintro w ⟨⟨r0, r1, r2, r3, r4⟩, r5, r6, r7⟩; go_simp; try with_reducible rfl
          simp only [Act.put, List.setIfInBounds_toArray, List.set_cons_succ, List.set_cons_zero]
          refine Lim.stepR 12 (fun _ => trivial) rfl (by kernel_rfl) (fun _ _ _ _ h => h) hC rfl ?_; apply Exists.intro; refine ⟨?_, ?_⟩
          · rintro w ⟨⟨r0, r1, r2, r3, r4⟩, r5, r6, r7⟩; go_simp; try with_reducible rfl
          simp only [Act.put, List.setIfInBounds_toArray, List.set_cons_succ, List.set_cons_zero]
          refine Lim.stepR 13 (fun _ => trivial) rfl (by kernel_rfl) (fun _ _ _ _ h => h) hC rfl ?_; apply Exists.intro; refine ⟨?_, ?_⟩
          · rintro w ⟨⟨r0, r1, r2, r3, r4⟩, r5, r6, r7⟩; go_simp; try with_reducible rfl
          simp only [Act.put, List.setIfInBounds_toArray, List.set_cons_succ, List.set_cons_zero]
          refine Lim.stepR 14 (fun _ => trivial) rfl (by kernel_rfl) (fun _ _ _ _ h => h) hC rfl ?_; apply Exists.intro; refine ⟨?_, ?_⟩
          · rintro w ⟨⟨r0, r1, r2, r3, r4⟩, r5, r6, r7⟩; go_simp; try with_reducible rfl
          simp only [Act.put, List.setIfInBounds_toArray, List.set_cons_succ, List.set_cons_zero]
          refine Lim.stepE 15 (fun _ => trivial) rfl (by kernel_rfl) rfl (fun K hK => ?_)   -- E call
          go_simp
          refine ⟨rfl, (callsIn_wide.2 (HBE.out _ HB4.out)).mono ?_⟩
          rintro e w5 ⟨vL, L, rfl, hrs, hbst, hnon, hb5⟩
          have hC5 : (fun W => (W.cell? ⟨q, 0, none⟩ = some av ∧ W.cell? ⟨q, 1, none⟩ = some gv ∧ W.cell? ⟨q, 2, none⟩ = some (.int .i64 tl) ∧ W.cell? ⟨q, 3, none⟩ = some (.int .i64 lo) ∧ W.cell? ⟨q, 4, none⟩ = some (.int .i64 hi)) ∧ W.cell? ⟨vb, vo + k, none⟩ = some (.int .i64 (f0 : Int)) ∧ W.cell? ⟨vb, vo + (k + 1), none⟩ = some (.int .i64 (f1 : Int)) ∧ W.cell? ⟨vb, vo + (k + 2), none⟩ = some (.int .i64 (f2 : Int))) w5 := ⟨⟨hb5.on hC.1.1, hb5.on hC.1.2.1, hb5.on hC.1.2.2.1, hb5.on hC.1.2.2.2.1, hb5.on hC.1.2.2.2.2⟩, hb5.on hC.2.1, hb5.on hC.2.2.1, hb5.on hC.2.2.2⟩
          have HB5 : Hid (Below w.heap.size w w5) := Lib.hid (HB4.out.trans (hb5.mono HB4.out.size))
          have HBL := Lib.hid (And.intro hbst hnon)
          obtain ⟨al, cl, rfl, hal⟩ := hrs
          have HAL := Lib.hid hal
          clear hb5 hbst hnon hal
          refine hK _ _ hC5 ?_
          simp only [Act.put, List.setIfInBounds_toArray, List.set_cons_succ, List.set_cons_zero]
          refine Lim.stepR 16 (fun _ => trivial) rfl (by kernel_rfl) (fun _ _ _ _ h => h) hC5 rfl ?_; apply Exists.intro; refine ⟨?_, ?_⟩
          · rintro w ⟨⟨r0, r1, r2, r3, r4⟩, r5, r6, r7⟩; go_simp; try with_reducible rfl
          simp only [Act.put, List.setIfInBounds_toArray, List.set_cons_succ, List.set_cons_zero]
          refine Lim.stepD (by kernel_rfl) ?_
          clear hC5
          obtain ⟨ll, hll⟩ : ∃ x, x = L.length := ⟨_, rfl⟩
          rw [← hll]
          have HLL := Lib.hid hll
          clear hll
          by_cases hl0 : ll = 0
          · subst hl0
            have HLE : Hid (L = []) := Lib.hid (List.eq_nil_of_length_eq_zero HLL.out.symm)
            go_wp2
            go_ret2
            refine ⟨HB5.out, _, _, [], rfl, ownsRow_zero _ _ _ _, .inr (.inr (.inr (.inr ⟨HE.out.1, HE.out.2, HH.out, HI.out, .inl ⟨rfl, rfl, fun M hM => ?_⟩⟩)))⟩
            have h1 := HF.out
            simp only [Int.toNat_natCast, Nat.add_sub_cancel] at hM
            rw [h1.1, h1.2.1, show k + 1 + 1 = k + 2 from rfl, h1.2.2.1] at hM
            simp only [Int.toNat_natCast] at hM
            exact HBL.out.2 HLE.out M hM
          · have dl : ((ll : Int) == 0) = false := beq_eq_false_iff_ne.2 (by omega)
            have hLne : L ≠ [] := fun e => hl0 (by rw [HLL.out, e]; rfl)
            have HBS := Lib.hid (HBL.out.1 hLne)
            have hl41 : ll ≤ 41 := by have := HBS.out.ch.len; have := HF.out.2.2.2.2; have := HP.out.n40; have := HLL.out; omega
            obtain ⟨g, o, rfl, hg5, hgc⟩ := HAL.out (nats_ne hLne)
            have HGC : Hid (∀ W, Below w5.heap.size w5 W → ∀ j u, (ints (L.map Int.ofNat))[j]? = some u → W.cell? ((⟨g, o, none⟩ : Addr).add j) = some u) := Lib.hid fun W hW j u hj => by
              rw [addr_add, hW.cell (p := ⟨g, o + j, none⟩) hg5]; exact hgc j u hj
            obtain ⟨i0, hi, hz0, hz1, hz2⟩ := info_parts Try.infoInt
            have HIN := Lib.hid (And.intro hi (And.intro hz0 (And.intro hz1 hz2)))
            have hk3m : k + 3 ≤ m := by omega
            have hkv : k ≤ vc := by omega
            have HTC : Hid (∀ j u, (ints (xs.take k))[j]? = some u → (w5.alloc (.cells #[] 3)).cell? ((⟨vb, vo, none⟩ : Addr).add j) = some u) := Lib.hid (fun j u hj => by
              rw [addr_add]
              refine (hvc.out _ (HB5.out.alloc HB5.out.size _)).2.1 j u ?_
              have hjl : j < k := by
                have := (List.getElem?_eq_some_iff.1 hj).1
                simp [ints] at this
                omega
              unfold ints at hj ⊢
              rw [List.getElem?_map, List.getElem?_take, if_pos hjl] at hj
              rw [List.getElem?_map]
              exact hj)
            clear hi hz0 hz1 hz2 hg5 hgc hLne
            go_upto_region 12 with (at_builtin; refine wpList_append_own _ rfl _ _ 22 rfl w5.heap.size 3 i0 (.int .i64 0) 1 8 Try.underlying22 HIN.out.1 HIN.out.2.1 HIN.out.2.2.1 HIN.out.2.2.2 rfl (by decide) (.slice (some ⟨w5.heap.size, 0, none⟩) 0 0) 0 [] rfl (owns_empty w5 (Nat.le_refl _) _) ⟨vb, vo, none⟩ k vc (ints (xs.take k)) rfl (by have := HML.out; simp [ints]; omega) HTC.out (ints_one _) (by unfold maxLen; omega) (by omega) (by simp) ?_; intro v7 w7 hown7 hgr7 _; have HB7 : Hid (Below w5.heap.size w5 w7) := Lib.hid (((Below.refl _ w5).alloc (Nat.le_refl _) _).grown hgr7 (by simp) (fun kk e => by cases e; exact Nat.le_refl _)); have HO7 : Hid (w7.ownsRow w5.heap.size 3 1 v7 k (ints (xs.take k))) := Lib.hid (by simpa using hown7); clear hown7 hgr7)
            go_upto_region 13 with (at_builtin; refine wpList_append_own _ rfl _ _ 22 rfl w5.heap.size 3 i0 (.int .i64 0) 1 8 Try.underlying22 HIN.out.1 HIN.out.2.1 HIN.out.2.2.1 HIN.out.2.2.2 rfl (by decide) v7 k (ints (xs.take k)) rfl HO7.out ⟨g, o, none⟩ ll cl (ints (L.map Int.ofNat)) rfl (by rw [HLL.out]; unfold ints; simp) (HGC.out _ HB7.out) (ints_one _) (by unfold maxLen; omega) (by omega) HB7.out.size ?_; intro v8 w8 hown8 hgr8 _; have HO8 := Lib.hid hown8; have HB8 : Hid (Below w.heap.size w w8 ∧ w5.heap.size ≤ w8.heap.size) := Lib.hid ⟨(HB5.out.trans (HB7.out.mono HB5.out.size)).grown hgr8 (Nat.le_trans HB5.out.size HB7.out.size) (fun kk e => by have h1 := (HO7.out.lt kk e).1; have := HB5.out.size; omega), by have h1 := hgr8.size; have := HB7.out.size; omega⟩; clear hown8 hgr8)
            by_cases hcv : vc = k + 3
            · have hmz : m - (k + 3) = 0 := by omega
              have HDC : Hid (∀ j u, (ints (xs.drop (k + 3)))[j]? = some u → w8.cell? ((⟨vb, vo, none⟩ : Addr).add j) = some u) := Lib.hid (fun j u hj => by
                rw [List.drop_eq_nil_of_le (by have := HML.out; omega)] at hj
                simp [ints] at hj)
              subst hcv
              go_wp2_with (at_builtin; refine wpList_append_own _ rfl _ _ 22 rfl w5.heap.size 3 i0 (.int .i64 0) 1 8 Try.underlying22 HIN.out.1 HIN.out.2.1 HIN.out.2.2.1 HIN.out.2.2.2 rfl (by decide) v8 (k + ll) (ints (xs.take k) ++ ints (L.map Int.ofNat)) rfl HO8.out ⟨vb, vo, none⟩ (m - (k + 3)) (k + 3 - (k + 3)) (ints (xs.drop (k + 3))) rfl (by unfold ints; have := HML.out; simp; omega) HDC.out (ints_one _) (by unfold maxLen; omega) (by omega) HB8.out.2 ?_; intro v9 w9 hown9 hgr9 _; have HO9 := Lib.hid hown9; have HB9 : Hid (Below w.heap.size w w9) := Lib.hid (HB8.out.1.grown hgr9 HB8.out.1.size (fun kk e => by have h1 := (HO8.out.lt kk e).1; have := HB5.out.size; omega)); clear hown9 hgr9)
              go_ret2
              refine ⟨HB9.out, v9, 0, xs.take k ++ L.map Int.ofNat ++ xs.drop (k + 3), rfl, ?_, .inr (.inr (.inr (.inr ⟨HE.out.1, HE.out.2, HH.out, HI.out, .inr ⟨rfl, L, ?_, ?_⟩⟩)))⟩
              · have h1 := owns_mono (base' := w.heap.size) HO9.out HB5.out.size
                have e5 : ints (xs.take k) ++ ints (L.map Int.ofNat) ++ ints (xs.drop (k + 3)) = ints (xs.take k ++ L.map Int.ofNat ++ xs.drop (k + 3)) := by simp [ints]
                rw [e5] at h1
                have e6 : (xs.take k ++ L.map Int.ofNat ++ xs.drop (k + 3)).length = k + ll + (m - (k + 3)) := by have := HML.out; have := HLL.out; simp; omega
                rw [e6]; exact h1
              · have h1 := HF.out
                simp only [Int.toNat_natCast, Nat.add_sub_cancel]
                rw [h1.1, h1.2.1, show k + 1 + 1 = k + 2 from rfl, h1.2.2.1]
                simp only [Int.toNat_natCast]
                exact HBS.out
              · simp
            · have HDC : Hid (∀ j u, (ints (xs.drop (k + 3)))[j]? = some u → w8.cell? ((⟨vb, vo + (k + 3), none⟩ : Addr).add j) = some u) := Lib.hid (fun j u hj => by
                rw [Addr.add_lit, Nat.add_assoc]
                refine (hvc.out w8 HB8.out.1).2.1 (k + 3 + j) u ?_
                unfold ints at hj ⊢
                rw [List.map_drop, List.getElem?_drop] at hj
                exact hj)
              go_wp2_with (at_builtin; refine wpList_append_own _ rfl _ _ 22 rfl w5.heap.size 3 i0 (.int .i64 0) 1 8 Try.underlying22 HIN.out.1 HIN.out.2.1 HIN.out.2.2.1 HIN.out.2.2.2 rfl (by decide) v8 (k + ll) (ints (xs.take k) ++ ints (L.map Int.ofNat)) rfl HO8.out ⟨vb, vo + (k + 3), none⟩ (m - (k + 3)) (vc - (k + 3)) (ints (xs.drop (k + 3))) rfl (by unfold ints; have := HML.out; simp; omega) HDC.out (ints_one _) (by unfold maxLen; omega) (by omega) HB8.out.2 ?_; intro v9 w9 hown9 hgr9 _; have HO9 := Lib.hid hown9; have HB9 : Hid (Below w.heap.size w w9) := Lib.hid (HB8.out.1.grown hgr9 HB8.out.1.size (fun kk e => by have h1 := (HO8.out.lt kk e).1; have := HB5.out.size; omega)); clear hown9 hgr9)
              go_ret2
              refine ⟨HB9.out, v9, 0, xs.take k ++ L.map Int.ofNat ++ xs.drop (k + 3), rfl, ?_, .inr (.inr (.inr (.inr ⟨HE.out.1, HE.out.2, HH.out, HI.out, .inr ⟨rfl, L, ?_, ?_⟩⟩)))⟩
              · have h1 := owns_mono (base' := w.heap.size) HO9.out HB5.out.size
                have e5 : ints (xs.take k) ++ ints (L.map Int.ofNat) ++ ints (xs.drop (k + 3)) = ints (xs.take k ++ L.map Int.ofNat ++ xs.drop (k + 3)) := by simp [ints]
                rw [e5] at h1
                have e6 : (xs.take k ++ L.map Int.ofNat ++ xs.drop (k + 3)).length = k + ll + (m - (k + 3)) := by have := HML.out; have := HLL.out; simp; omega
                rw [e6]; exact h1
              · have h1 := HF.out
                simp only [Int.toNat_natCast, Nat.add_sub_cancel]
                rw [h1.1, h1.2.1, show k + 1 + 1 = k + 2 from rfl, h1.2.2.1]
                simp only [Int.toNat_natCast]
                exact HBS.out
              · simp
    · have HE := Lib.hid (And.intro he hi2)
      rw [holdsAns, if_neg (fun h => h he), if_neg hi2]
      clear he hi2 k0 k1 k2 k3 k4
      go_wp2
      go_ret2
      exact ⟨HB2.out, _, _, [], rfl, ownsRow_zero _ _ _ _, .inr (.inl ⟨HE.out.1, by simpa using HE.out.2, rfl, rfl⟩)⟩
  · rw [holdsAns, if_pos he]
    obtain ⟨er, her⟩ : ∃ x, x = p.err := ⟨_, rfl⟩
    have HER := Lib.hid (And.intro her he)
    rw [← her] at he ⊢
    clear her
    have d1 : (er != 0) = true := by simp [he]
    clear he k0 k1 k2 k3 k4
    go_wp2
    go_ret2
    exact ⟨HB2.out, _, _, [], rfl, ownsRow_zero _ _ _ _, .inl ⟨HER.out.2, rfl, HER.out.1⟩⟩
end Go.Proofs.Ytobmhamdkngehaa
