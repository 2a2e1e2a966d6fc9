/-
  Parts of the proof, in the order in which they build: Narrow.
-/
import Derived.Deep.CutRange
import Derived.BigQuiet
import Derived.Test.YtdgibmgifgdpbaaH16
import Derived.Test.YtdgibmgifgdpbaaH15
import Derived.Test.YtdgibmgifgdpbaaH19
import Derived.Test.YtdgibmgifgdpbaaH20
import Derived.Test.YtdgibmgifgdpbaaG16
set_option linter.unusedVariables false
set_option linter.unusedSimpArgs false
namespace Go.Proofs.Ytdgibmgifgdpbaa
open Go.RowKit Go.Shelf
open Lim

set_option maxRecDepth 20000 in
set_option maxHeartbeats 8000000 in
theorem narrow_any {B : Nat} {nv tv0 : Value} {ns ts : List Int} {w : World} (hB : B ≤ w.heap.size) (hn : RS B w nv ns.length (u8s ns)) (hnu : ∀ x ∈ ns, 0 ≤ x ∧ x ≤ 255) (ht : RS B w tv0 ts.length (u8s ts)) (htu : ∀ x ∈ ts, 0 ≤ x ∧ x ≤ 255) :
    Calls Try.prog 8 #[nv, tv0] w fun e w' => e = .returned (.bool true) ∧ Below w.heap.size w w' := by
  have HA := Lib.hid (And.intro hB (And.intro hn (And.intro hnu (And.intro ht htu))))
  obtain ⟨na, nc, rfl, -⟩ := hn
  obtain ⟨ua, uc, rfl, -⟩ := ht
  clear hB hnu htu
  go_enter Try.func8, Try.ntmps8
  go_wp2_with fail
  refine (of_dk HA.out.1 HA.out.2.1 HA.out.2.2.1).mono ?_
  rintro e w1 ⟨rfl, hd0, hb1, hs1⟩
  have HD0 := Lib.hid (And.intro hd0 (And.intro hb1 hs1))
  clear hd0 hb1 hs1
  go_wp2_with fail
  refine (of_dk (B := B) (by have h1 := HA.out.1; have h2 := HD0.out.2.1.size; omega) (HA.out.2.2.2.1.below (HD0.out.2.1.mono HA.out.1)) HA.out.2.2.2.2).mono ?_
  rintro e w2 ⟨rfl, hd1, hb2, hs2⟩
  have HD1 := Lib.hid (And.intro hd1 (And.intro hb2 hs2))
  clear hd1 hb2 hs2
  go_wp2_with fail
  refine (made_any (d := w.heap.size) (c0 := 0) ((HD0.out.1.below HD1.out.2.1).deck (n := 0) (by omega)) (by omega) (by omega) (by omega)).mono ?_
  rintro e w3 ⟨m, rows, hv, sv, tv, hs, ss, T, c', rfl, hM, -, -, hgr, o1, o2, o3⟩
  have HM := Lib.hid hM
  have HO : Hid (openErr (m : Int) hs ss = 0) := Lib.hid (hM.right (by omega) (by omega))
  have HLN := Lib.hid (hM.lens (by omega) (by omega))
  obtain ⟨d1, hd1e⟩ : ∃ d1, d1 = w1.heap.size := ⟨_, rfl⟩
  obtain ⟨S, hSe⟩ : ∃ S, S = w2.heap.size := ⟨_, rfl⟩
  have HK0 : Hid (Kept w S d1 0 [rwI tv T, rwI sv ss, rwH hv hs] [] w3) := Lib.hid (by
    have h0 := HA.out.1
    have h1 := HD0.out.2.1.size
    have h2 := HD0.out.2.2
    have h3 := HD1.out.2.2
    have h4 := hgr.size
    rw [hd1e, hSe]
    refine ⟨below_grown (HD0.out.2.1.trans (HD1.out.2.1.mono h1)) hgr (by omega) (fun r e => by cases e; exact Nat.le_refl _), ⟨h1, by omega, h4⟩, (HD1.out.1.other (HA.out.2.2.2.1.below ((HD0.out.2.1.trans (HD1.out.2.1.mono h1)).mono h0)) h0 (by omega) (by omega) hgr).deck (n := 0) (by omega), ?_, fun p hp => by cases hp⟩
    intro r hr
    simp only [List.mem_cons, List.not_mem_nil, or_false] at hr
    rcases hr with rfl | rfl | rfl
    · exact o3
    · exact o2
    · exact o1)
  obtain ⟨ha, hcap, rfl⟩ : ∃ g cap, hv = .slice (some ⟨g, 0, none⟩) hs.length cap := form_pos (r := rwH hv hs) o1 (show 0 < hs.length by have := HLN.out; omega)
  obtain ⟨sa, scap, rfl⟩ : ∃ g cap, sv = .slice (some ⟨g, 0, none⟩) ss.length cap := form_pos (r := rwI sv ss) o2 (show 0 < ss.length by have := HLN.out; omega)
  obtain ⟨ta, tcap, rfl⟩ : ∃ g cap, tv = .slice (some ⟨g, 0, none⟩) T.length cap := form_pos (r := rwI tv T) o3 (show 0 < T.length by have := HLN.out; omega)
  simp only [← hd1e]
  clear hM hgr o1 o2 o3 hd1e hSe HD0 HD1 HA
  go_wp2_with fail
  have HK1 := Lib.hid (HK0.out.lay (.cells #[.int .i64 m, .slice (some ⟨ha, 0, none⟩) hs.length hcap, .slice (some ⟨sa, 0, none⟩) ss.length scap] 25))
  obtain ⟨q, hqe⟩ : ∃ q, q = w3.heap.size := ⟨_, rfl⟩
  simp only [← hqe] at HK1 ⊢
  generalize w3.alloc (.cells #[.int .i64 m, .slice (some ⟨ha, 0, none⟩) hs.length hcap, .slice (some ⟨sa, 0, none⟩) ss.length scap] 25) = w4 at HK1 ⊢
  clear HK0 hqe
  obtain ⟨b0, b1, b2⟩ := HK1.out.box3 (q := q) (a := .int .i64 m) (b := .slice (some ⟨ha, 0, none⟩) hs.length hcap) (e := .slice (some ⟨sa, 0, none⟩) ss.length scap) (t := 25) (by simp)
  refine (lclone_any (B := w4.heap.size) (wd := m) (Nat.le_refl _) (HK1.out.rsH (v := .slice (some ⟨ha, 0, none⟩) hs.length hcap) (hs := hs) (by simp)) (HK1.out.rsI (v := .slice (some ⟨sa, 0, none⟩) ss.length scap) (l := ss) (by simp)) (by have := HLN.out; omega) (by have := HLN.out; omega)).mono ?_
  rintro e w5 ⟨hv2, sv2, rfl, o1, o2, hb⟩
  obtain ⟨p, pc, rfl⟩ : ∃ g cap, hv2 = .slice (some ⟨g, 0, none⟩) hs.length cap := form_pos (r := ⟨54, 2, hv2, hs.length, spans hs⟩) o1 (show 0 < hs.length by have := HLN.out; omega)
  obtain ⟨f9, fc, rfl⟩ : ∃ g cap, sv2 = .slice (some ⟨g, 0, none⟩) ss.length cap := form_pos (r := rwI sv2 ss) o2 (show 0 < ss.length by have := HLN.out; omega)
  have HF0 : Hid (FiS w4 d1 0 p pc w5.heap.size hs.length m (.slice (some ⟨f9, 0, none⟩) ss.length fc) ss hs (w5.alloc (.cells #[.int .i64 m, .slice (some ⟨p, 0, none⟩) hs.length pc, .slice (some ⟨f9, 0, none⟩) ss.length fc] 25))) := Lib.hid (by
    have hb2 : Below w5.heap.size w5 (w5.alloc (.cells #[.int .i64 m, .slice (some ⟨p, 0, none⟩) hs.length pc, .slice (some ⟨f9, 0, none⟩) ss.length fc] 25)) := (Below.refl _ w5).alloc (Nat.le_refl _) _
    have ho := HK1.out.o
    exact ⟨grown_on (grown_on (grown_refl w4 _) hb) hb2, (HK1.out.dk.below hb).below hb2, owns_below o1 hb2, owns_below o2 hb2, heap_alloc_new w5 _, hb.size, by omega⟩)
  clear hb o1 o2 b0 b1 b2
  go_upto_region 4 with (fail)
  obtain ⟨q9, hqe⟩ : ∃ q, q = w5.heap.size := ⟨_, rfl⟩
  simp only [← hqe] at HF0 ⊢
  generalize w5.alloc (.cells #[.int .i64 m, .slice (some ⟨p, 0, none⟩) hs.length pc, .slice (some ⟨f9, 0, none⟩) ss.length fc] 25) = w6 at HF0 ⊢
  clear hqe
  have HKF := Lib.hid (HK1.out.fine HF0.out)
  obtain ⟨b0, b1, b2⟩ := HKF.out.box3 (q := q) (a := .int .i64 m) (b := .slice (some ⟨ha, 0, none⟩) hs.length hcap) (e := .slice (some ⟨sa, 0, none⟩) ss.length scap) (t := 25) (by simp)
  clear HKF
  go_wp2_with fail
  clear b0 b1 b2
  go_loopw [46] (fun i W => ∃ (k c : Nat) (L : List (Int × Int)), k ≤ hs.length ∧ i = .int .i64 k ∧ Hid (c ≤ 2 * k) ∧ Hid (FineTo hs T k L) ∧ Hid (FiS w4 d1 c p pc q9 hs.length m (.slice (some ⟨f9, 0, none⟩) ss.length fc) ss L W)) (fun i _ => hs.length - (intOf i).toNat)
  case atStart => exact ⟨0, 0, hs, Nat.zero_le _, rfl, Lib.hid (by omega), Lib.hid ⟨rfl, fun c hc => by omega⟩, HF0⟩
  case round =>
    as_aux_lemma =>
      clear HF0
      obtain ⟨k, c, L, hk, rfl, HC0, HFT, HF⟩ := hrel
      by_cases hlt : k < hs.length
      · have HC : Hid (c ≤ 200) := Lib.hid (by have := HC0.out; have := HLN.out; omega)
        have HKF := Lib.hid (HK1.out.fine HF.out)
        obtain ⟨q0, q1⟩ := HKF.out.cellH (g := ha) (cap := hcap) (l := hs) (by simp) hlt
        have q2 := HKF.out.cellI (g := ta) (cap := tcap) (l := T) (j := k) (by simp) (by have := HLN.out; omega)
        obtain ⟨t, ht⟩ : ∃ t, t = T.getD k 0 := ⟨_, rfl⟩
        obtain ⟨⟨lo, hi⟩, hx⟩ : ∃ x, x = hs.getD k (0, 0) := ⟨_, rfl⟩
        rw [← ht] at q2
        rw [← hx] at q0 q1
        dsimp only at q0 q1
        have HTR : Hid (0 ≤ lo ∧ lo ≤ t ∧ t ≤ hi ∧ hi ≤ 14) := Lib.hid (by
          have h := HM.out.cells.h k (by have h1 := HM.out.cells.l1; omega)
          rw [← hx, ← ht] at h
          dsimp only at h
          omega)
        have HX := Lib.hid (And.intro hx ht)
        have hi1 : (k : Int) < (hs.length : Int) := by omega
        have hi2 : (k : Int) < (T.length : Int) := by have := HLN.out; omega
        have hi4 : k < T.length := by have := HLN.out; omega
        have hi3 : (k : Int) < 1000 := by have := HLN.out; omega
        clear hx ht
        go_upto_region 7 with (fail)
        clear q0 q1
        have hb1 : Below wr.heap.size wr (wr.alloc (.cells #[.int .i64 lo, .int .i64 hi] 54)) := (Below.refl _ wr).alloc (Nat.le_refl _) _
        have HF0 := Lib.hid (HF.out.grow hb1)
        have HQ := Lib.hid (heap_alloc_new wr (.cells #[.int .i64 lo, .int .i64 hi] 54))
        have q2' := cell_on hb1 q2
        have HNE : Hid (q9 ≠ d1 ∧ wr.heap.size ≠ d1 ∧ ta ≠ d1 ∧ q9 ≠ p ∧ wr.heap.size ≠ p ∧ ta ≠ p) := Lib.hid (by
          obtain ⟨h1, h2, cs, hp⟩ := owned_block (r := ⟨54, 2, .slice (some ⟨p, 0, none⟩) hs.length pc, hs.length, spans L⟩) HF.out.h (k := p) rfl
          obtain ⟨h3, h4, -⟩ := owned_block (HK1.out.r (rwI (.slice (some ⟨ta, 0, none⟩) T.length tcap) T) (by simp)) (k := ta) rfl
          have h5 := HK1.out.o
          have h6 := HF.out.q
          have h7 := HF.out.gr.size
          have hp : wr.heap[p]? = some (.cells cs 54 (0, 0)) := hp
          refine ⟨by omega, by omega, by omega, ?_, by omega, by omega⟩
          intro e
          subst e
          have h8 := HF.out.bx
          rw [hp] at h8
          have h9 : (54 : TypeId) = 25 := (Obj.cells.inj (Option.some.inj h8)).2.1
          exact absurd h9 (by decide))
        obtain ⟨q11, hqe⟩ : ∃ q, q = wr.heap.size := ⟨_, rfl⟩
        simp only [← hqe] at HQ HNE ⊢
        generalize wr.alloc (.cells #[.int .i64 lo, .int .i64 hi] 54) = W0 at HF0 HQ q2' ⊢
        have HF1 := Lib.hid (HF0.out.grow (Below.refl _ W0).drew)
        have hC : (fun W => W.cell? ⟨q9, 1, none⟩ = some (.slice (some ⟨p, 0, none⟩) hs.length pc) ∧ W.cell? ⟨q11, 0, none⟩ = some (.int .i64 lo) ∧ W.cell? ⟨q11, 1, none⟩ = some (.int .i64 hi) ∧ W.cell? ⟨ta, k, none⟩ = some (.int .i64 t)) W0.drew := ⟨HF0.out.box.2.1, (two_cells HQ.out).1.1, (two_cells HQ.out).1.2, q2'⟩
        clear HF HF0 HKF q2 q2' hb1 hqe HQ
        generalize hW0 : W0.drew = W1 at HF1 hC
        refine Lim.regC' (fun W => W.cell? ⟨q9, 1, none⟩ = some (.slice (some ⟨p, 0, none⟩) hs.length pc) ∧ W.cell? ⟨q11, 0, none⟩ = some (.int .i64 lo) ∧ W.cell? ⟨q11, 1, none⟩ = some (.int .i64 hi) ∧ W.cell? ⟨ta, k, none⟩ = some (.int .i64 t)) [] #[false, false, false, false, false, false, false, false, false, false, false, false, false, false, false, false, false, false, false, false, false, false] (by kernel_rfl) rfl ?_
        rw [hW0]; clear hW0
        refine Lim.stepR 0 (fun _ => trivial) rfl (by kernel_rfl) (fun _ _ _ _ h => h) hC rfl ?_; apply Exists.intro; refine ⟨?_, ?_⟩
        · rintro w ⟨r1, r2, r3, r4⟩; go_simp; try with_reducible rfl
        simp only [Act.put, List.setIfInBounds_toArray, List.set_cons_succ, List.set_cons_zero]
        refine Lim.stepR 1 (fun _ => trivial) rfl (by kernel_rfl) (fun _ _ _ _ h => h) hC rfl ?_; apply Exists.intro; refine ⟨?_, ?_⟩
        · rintro w ⟨r1, r2, r3, r4⟩; go_simp; try with_reducible rfl
        simp only [Act.put, List.setIfInBounds_toArray, List.set_cons_succ, List.set_cons_zero]
        refine Lim.stepR 2 (fun _ => trivial) rfl (by kernel_rfl) (fun _ _ _ _ h => h) hC rfl ?_; apply Exists.intro; refine ⟨?_, ?_⟩
        · rintro w ⟨r1, r2, r3, r4⟩; go_simp; try with_reducible rfl
        simp only [Act.put, List.setIfInBounds_toArray, List.set_cons_succ, List.set_cons_zero]
        refine Lim.stepR 3 (fun _ => trivial) rfl (by kernel_rfl) (fun _ _ _ _ h => h) hC rfl ?_; apply Exists.intro; refine ⟨?_, ?_⟩
        · rintro w ⟨r1, r2, r3, r4⟩; go_simp; try with_reducible rfl
        simp only [Act.put, List.setIfInBounds_toArray, List.set_cons_succ, List.set_cons_zero]
        refine Lim.stepR 4 (fun _ => trivial) rfl (by kernel_rfl) (fun _ _ _ _ h => h) hC rfl ?_; apply Exists.intro; refine ⟨?_, ?_⟩
        · rintro w ⟨r1, r2, r3, r4⟩; go_simp; try with_reducible rfl
        simp only [Act.put, List.setIfInBounds_toArray, List.set_cons_succ, List.set_cons_zero]
        refine Lim.stepR 5 (fun _ => trivial) rfl (by kernel_rfl) (fun _ _ _ _ h => h) hC rfl ?_; apply Exists.intro; refine ⟨?_, ?_⟩
        · rintro w ⟨r1, r2, r3, r4⟩; go_simp; try with_reducible rfl
        simp only [Act.put, List.setIfInBounds_toArray, List.set_cons_succ, List.set_cons_zero]
        refine Lim.stepR 6 (fun _ => trivial) rfl (by kernel_rfl) (fun _ _ _ _ h => h) hC rfl ?_; apply Exists.intro; refine ⟨?_, ?_⟩
        · rintro w ⟨r1, r2, r3, r4⟩; go_simp; try with_reducible rfl
        simp only [Act.put, List.setIfInBounds_toArray, List.set_cons_succ, List.set_cons_zero]
        refine Lim.stepR 7 (fun _ => trivial) rfl (by kernel_rfl) (fun _ _ _ _ h => h) hC rfl ?_; apply Exists.intro; refine ⟨?_, ?_⟩
        · rintro w ⟨r1, r2, r3, r4⟩; go_simp; try with_reducible rfl
        simp only [Act.put, List.setIfInBounds_toArray, List.set_cons_succ, List.set_cons_zero]
        refine Lim.stepR 8 (fun _ => trivial) rfl (by kernel_rfl) (fun _ _ _ _ h => h) hC rfl ?_; apply Exists.intro; refine ⟨?_, ?_⟩
        · rintro w ⟨r1, r2, r3, r4⟩; go_simp; try with_reducible rfl
        simp only [Act.put, List.setIfInBounds_toArray, List.set_cons_succ, List.set_cons_zero]
        refine Lim.stepR 9 (fun _ => trivial) rfl (by kernel_rfl) (fun _ _ _ _ h => h) hC rfl ?_; apply Exists.intro; refine ⟨?_, ?_⟩
        · rintro w ⟨r1, r2, r3, r4⟩; go_simp; try with_reducible rfl
        simp only [Act.put, List.setIfInBounds_toArray, List.set_cons_succ, List.set_cons_zero]
        refine Lim.stepR 11 (fun _ => trivial) rfl (by kernel_rfl) (fun _ _ _ _ h => h) hC rfl ?_; apply Exists.intro; refine ⟨?_, ?_⟩
        · rintro w ⟨r1, r2, r3, r4⟩; go_simp; try with_reducible rfl
        simp only [Act.put, List.setIfInBounds_toArray, List.set_cons_succ, List.set_cons_zero]
        refine Lim.stepR 12 (fun _ => trivial) rfl (by kernel_rfl) (fun _ _ _ _ h => h) hC rfl ?_; apply Exists.intro; refine ⟨?_, ?_⟩
        · rintro w ⟨r1, r2, r3, r4⟩; go_simp; try with_reducible rfl
        simp only [Act.put, List.setIfInBounds_toArray, List.set_cons_succ, List.set_cons_zero]
        refine Lim.stepR 13 (fun _ => trivial) rfl (by kernel_rfl) (fun _ _ _ _ h => h) hC rfl ?_; apply Exists.intro; refine ⟨?_, ?_⟩
        · rintro w ⟨r1, r2, r3, r4⟩; go_simp; try with_reducible rfl
        simp only [Act.put, List.setIfInBounds_toArray, List.set_cons_succ, List.set_cons_zero]
        refine Lim.stepR 14 (fun _ => trivial) rfl (by kernel_rfl) (fun _ _ _ _ h => h) hC rfl ?_; apply Exists.intro; refine ⟨?_, ?_⟩
        · rintro w ⟨r1, r2, r3, r4⟩; go_simp; try with_reducible rfl
        simp only [Act.put, List.setIfInBounds_toArray, List.set_cons_succ, List.set_cons_zero]
        refine Lim.stepR 15 (fun _ => trivial) rfl (by kernel_rfl) (fun _ _ _ _ h => h) hC rfl ?_; apply Exists.intro; refine ⟨?_, ?_⟩
        · rintro w ⟨r1, r2, r3, r4⟩; go_simp; try with_reducible rfl
        simp only [Act.put, List.setIfInBounds_toArray, List.set_cons_succ, List.set_cons_zero]
        refine Lim.stepR 16 (fun _ => trivial) rfl (by kernel_rfl) (fun _ _ _ _ h => h) hC rfl ?_; apply Exists.intro; refine ⟨?_, ?_⟩
        · rintro w ⟨r1, r2, r3, r4⟩; go_simp; try with_reducible rfl
        simp only [Act.put, List.setIfInBounds_toArray, List.set_cons_succ, List.set_cons_zero]
        refine Lim.stepR 17 (fun _ => trivial) rfl (by kernel_rfl) (fun _ _ _ _ h => h) hC rfl ?_; apply Exists.intro; refine ⟨?_, ?_⟩
        · rintro w ⟨r1, r2, r3, r4⟩; go_simp; try with_reducible rfl
        simp only [Act.put, List.setIfInBounds_toArray, List.set_cons_succ, List.set_cons_zero]
        refine Lim.stepE 10 (fun _ => trivial) rfl (by kernel_rfl) rfl (fun K hK => ?_)   -- E call
        go_simp
        refine ⟨rfl, (callsIn_wide.2 (deck_between (a := lo) (b := t) HF1.out.dk (by have := HC.out; omega) (by have := HTR.out; omega) (by have := HTR.out; omega) (by have := HTR.out; omega))).mono ?_⟩
        rintro e W2 ⟨x1, rfl, hx1, hdl⟩
        have HF2 := Lib.hid (HF1.out.dealt hdl)
        have HX1 := Lib.hid hx1
        have hC2 : (fun W => W.cell? ⟨q9, 1, none⟩ = some (.slice (some ⟨p, 0, none⟩) hs.length pc) ∧ W.cell? ⟨q11, 0, none⟩ = some (.int .i64 lo) ∧ W.cell? ⟨q11, 1, none⟩ = some (.int .i64 hi) ∧ W.cell? ⟨ta, k, none⟩ = some (.int .i64 t)) W2 := ⟨cell_grown hdl.2.1 hC.1 HNE.out.1, cell_grown hdl.2.1 hC.2.1 HNE.out.2.1, cell_grown hdl.2.1 hC.2.2.1 HNE.out.2.1, cell_grown hdl.2.1 hC.2.2.2 HNE.out.2.2.1⟩
        refine hK _ _ hC2 ?_
        clear hx1 hdl HF1 hC
        simp only [Act.put, List.setIfInBounds_toArray, List.set_cons_succ, List.set_cons_zero]
        refine Lim.stepE 18 (fun _ => trivial) rfl (by kernel_rfl) rfl (fun K hK => ?_)   -- E call
        go_simp
        refine ⟨rfl, (callsIn_wide.2 (deck_between (a := t) (b := hi) HF2.out.dk (by have := HC.out; omega) (by have := HTR.out; omega) (by have := HTR.out; omega) (by have := HTR.out; omega))).mono ?_⟩
        rintro e W3 ⟨x2, rfl, hx2, hdl⟩
        have HF3 := Lib.hid (HF2.out.dealt hdl)
        have HX2 := Lib.hid hx2
        have hC3 : (fun W => W.cell? ⟨q9, 1, none⟩ = some (.slice (some ⟨p, 0, none⟩) hs.length pc) ∧ W.cell? ⟨q11, 0, none⟩ = some (.int .i64 lo) ∧ W.cell? ⟨q11, 1, none⟩ = some (.int .i64 hi) ∧ W.cell? ⟨ta, k, none⟩ = some (.int .i64 t)) W3 := ⟨cell_grown hdl.2.1 hC2.1 HNE.out.1, cell_grown hdl.2.1 hC2.2.1 HNE.out.2.1, cell_grown hdl.2.1 hC2.2.2.1 HNE.out.2.1, cell_grown hdl.2.1 hC2.2.2.2 HNE.out.2.2.1⟩
        refine hK _ _ hC3 ?_
        clear hx2 hdl HF2 hC2
        simp only [Act.put, List.setIfInBounds_toArray, List.set_cons_succ, List.set_cons_zero]
        refine Lim.stepE 19 (fun _ => trivial) rfl (by kernel_rfl) rfl (fun K hK => ?_)   -- E call
        go_simp
        refine ⟨rfl, (callsIn_wide.2 (span_any x1 x2 _)).mono ?_⟩
        rintro e W4 ⟨rfl, hb4⟩
        have HF4 := Lib.hid (HF3.out.grow hb4)
        have hC4 : (fun W => W.cell? ⟨q9, 1, none⟩ = some (.slice (some ⟨p, 0, none⟩) hs.length pc) ∧ W.cell? ⟨q11, 0, none⟩ = some (.int .i64 lo) ∧ W.cell? ⟨q11, 1, none⟩ = some (.int .i64 hi) ∧ W.cell? ⟨ta, k, none⟩ = some (.int .i64 t)) W4 := ⟨cell_on hb4 hC3.1, cell_on hb4 hC3.2.1, cell_on hb4 hC3.2.2.1, cell_on hb4 hC3.2.2.2⟩
        refine hK _ _ hC4 ?_
        clear hb4 HF3 hC3
        simp only [Act.put, List.setIfInBounds_toArray, List.set_cons_succ, List.set_cons_zero]
        refine Lim.stepR 20 (fun _ => trivial) rfl (by kernel_rfl) (fun _ _ _ _ h => h) hC4 rfl ?_; apply Exists.intro; refine ⟨?_, ?_⟩
        · rintro w ⟨r1, r2, r3, r4⟩; go_simp; try with_reducible rfl
        simp only [Act.put, List.setIfInBounds_toArray, List.set_cons_succ, List.set_cons_zero]
        refine Lim.stepE 21 (fun _ => trivial) rfl (by kernel_rfl) rfl (fun K hK => ?_)   -- E store
        obtain ⟨⟨k0, k1⟩, g0, g1⟩ := span_at HF4.out.h hlt
        have k1' : (W4.setCell ⟨p, k * 2, none⟩ (.int .i64 x1)).cell? ⟨p, k * 2 + 1, none⟩ = some _ := (setCell_off _ _ (by omega)).trans k1
        have g1' : (W4.setCell ⟨p, k * 2, none⟩ (.int .i64 x1)).frozen? ⟨p, k * 2 + 1, none⟩ = false := (World.frozen?_setCell ..).trans g1
        have HF5 := Lib.hid (HF4.out.put k x1 x2)
        have hC5 : (fun W => W.cell? ⟨q9, 1, none⟩ = some (.slice (some ⟨p, 0, none⟩) hs.length pc) ∧ W.cell? ⟨q11, 0, none⟩ = some (.int .i64 lo) ∧ W.cell? ⟨q11, 1, none⟩ = some (.int .i64 hi) ∧ W.cell? ⟨ta, k, none⟩ = some (.int .i64 t)) ((W4.setCell ⟨p, k * 2, none⟩ (.int .i64 x1)).setCell ⟨p, k * 2 + 1, none⟩ (.int .i64 x2)) := ⟨(setCell_far _ _ HNE.out.2.2.2.1.symm).trans ((setCell_far _ _ HNE.out.2.2.2.1.symm).trans hC4.1), (setCell_far _ _ HNE.out.2.2.2.2.1.symm).trans ((setCell_far _ _ HNE.out.2.2.2.2.1.symm).trans hC4.2.1), (setCell_far _ _ HNE.out.2.2.2.2.1.symm).trans ((setCell_far _ _ HNE.out.2.2.2.2.1.symm).trans hC4.2.2.1), (setCell_far _ _ HNE.out.2.2.2.2.2.symm).trans ((setCell_far _ _ HNE.out.2.2.2.2.2.symm).trans hC4.2.2.2)⟩
        clear k1 g1
        go_simp
        refine hK _ _ hC5 ?_
        simp only [Act.put, List.setIfInBounds_toArray, List.set_cons_succ, List.set_cons_zero]
        refine Lim.stepD (by kernel_rfl) ?_
        clear hC4 hC5 HF4 k0 k1' g0 g1'
        generalize (W4.setCell ⟨p, k * 2, none⟩ (.int .i64 x1)).setCell ⟨p, k * 2 + 1, none⟩ (.int .i64 x2) = W5 at HF5 ⊢
        go_wp2
        go_roundw
        case rel => exact ⟨k + 1, c + 1 + 1, _, by omega, by go_num, Lib.hid (by have := HC0.out; omega), Lib.hid (HFT.out.put HX.out.1 HX.out.2 HX1.out HX2.out HTR.out hlt), HF5⟩
        case measure => simp [intOf]; omega
      · have hkn : k = hs.length := by omega
        subst hkn
        have hFl := HFT.out.len
        have HFN : Hid (Finer hs L) := Lib.hid ⟨hFl, fun c hc => by have := HFT.out.le c hc hc; omega⟩
        have HK2 := Lib.hid (by have h := HF.out; rw [← hFl] at h; exact HK1.out.fined h)
        have HOF : Hid (openErr (m : Int) L ss = 0) := Lib.hid (HFN.out.right HO.out)
        have HLL := Lib.hid hFl
        clear HF HC0 HFT hFl hlt hk
        obtain ⟨b0, b1, b2⟩ := HK2.out.box3 (q := q) (a := .int .i64 m) (b := .slice (some ⟨ha, 0, none⟩) hs.length hcap) (e := .slice (some ⟨sa, 0, none⟩) ss.length scap) (t := 25) (by simp)
        go_wp2_with fail
        refine (just_any (B := wr.heap.size) (Nat.le_refl _) (HK2.out.rsH (v := .slice (some ⟨ha, 0, none⟩) hs.length hcap) (hs := hs) (by simp)) (HK2.out.rsI (v := .slice (some ⟨sa, 0, none⟩) ss.length scap) (l := ss) (by simp)) (HK2.out.rsI (v := .slice (some ⟨ta, 0, none⟩) T.length tcap) (l := T) (by simp)) (by have := HLN.out; omega) (by have := HLN.out; omega) (by have := HLN.out; omega) HM.out.insp.len).mono ?_
        rintro e w13 ⟨hv2, sv2, rfl, o1, o2, hb⟩
        obtain ⟨H, hH⟩ : ∃ H, H = justTo hs T hs.length := ⟨_, rfl⟩
        have hHl : H.length = hs.length := by rw [hH, justTo_len]
        rw [← hH, ← hHl] at o1
        have HW : Hid (Own hs T H) := Lib.hid (by rw [hH]; exact own_just hs T)
        have HHl := Lib.hid hHl
        have HOO : Hid (openErr (m : Int) H ss = 0) := Lib.hid (HW.out.right HO.out HM.out.insp)
        have HK3 := Lib.hid (((HK2.out.grow hb).addR (r := rwI sv2 ss) HK2.out.o.2.2 o2).addR (r := rwH hv2 H) HK2.out.o.2.2 o1)
        obtain ⟨h12, k12, rfl⟩ : ∃ g cap, hv2 = .slice (some ⟨g, 0, none⟩) H.length cap := form_pos (r := rwH hv2 H) o1 (show 0 < H.length by have := HLN.out; omega)
        obtain ⟨s12, l12, rfl⟩ : ∃ g cap, sv2 = .slice (some ⟨g, 0, none⟩) ss.length cap := form_pos (r := rwI sv2 ss) o2 (show 0 < ss.length by have := HLN.out; omega)
        clear hb o1 o2 hH hHl HK2 b0 b1 b2
        go_upto_region 10 with (fail)
        have HK4 := Lib.hid (HK3.out.lay (.cells #[.int .i64 m, .slice (some ⟨h12, 0, none⟩) H.length k12, .slice (some ⟨s12, 0, none⟩) ss.length l12] 25))
        obtain ⟨q12, hqe⟩ : ∃ q, q = w13.heap.size := ⟨_, rfl⟩
        simp only [← hqe] at HK4 ⊢
        generalize w13.alloc (.cells #[.int .i64 m, .slice (some ⟨h12, 0, none⟩) H.length k12, .slice (some ⟨s12, 0, none⟩) ss.length l12] 25) = w14 at HK4 ⊢
        clear HK3 hqe
        obtain ⟨b0, b1, b2⟩ := HK4.out.box3 (q := q) (a := .int .i64 m) (b := .slice (some ⟨ha, 0, none⟩) hs.length hcap) (e := .slice (some ⟨sa, 0, none⟩) ss.length scap) (t := 25) (by simp)
        obtain ⟨f0, f1, f2⟩ := HK4.out.box3 (q := q9) (a := .int .i64 m) (b := .slice (some ⟨p, 0, none⟩) L.length pc) (e := .slice (some ⟨f9, 0, none⟩) ss.length fc) (t := 25) (by simp)
        obtain ⟨o0, o1, o2⟩ := HK4.out.box3 (q := q12) (a := .int .i64 m) (b := .slice (some ⟨h12, 0, none⟩) H.length k12) (e := .slice (some ⟨s12, 0, none⟩) ss.length l12) (t := 25) (by simp)
        go_wp2_with fail
        refine (Sides_any (B := w14.heap.size) (Nat.le_refl _) (HK4.out.rsH (v := .slice (some ⟨ha, 0, none⟩) hs.length hcap) (hs := hs) (by simp)) (HK4.out.rsI (v := .slice (some ⟨sa, 0, none⟩) ss.length scap) (l := ss) (by simp))).mono ?_
        rintro e w15 ⟨v13, er, sl, rfl, hb, hans, ho⟩
        obtain ⟨rfl, hsl, hsll⟩ := sides_ok HO.out hans
        have HK5 := Lib.hid ((HK4.out.grow hb).addR (r := rwS v13 sl) HK4.out.o.2.2 ho)
        obtain ⟨a13, c13, rfl⟩ : ∃ g cap, v13 = .slice (some ⟨g, 0, none⟩) sl.length cap := form_pos (r := rwS v13 sl) ho (show 0 < sl.length by have := HLN.out; omega)
        have HSL := Lib.hid (And.intro hsl hsll)
        clear hb hans ho hsl hsll HK4 b0 b1 b2 f0 f1 f2 o0 o1 o2
        obtain ⟨f0, f1, f2⟩ := HK5.out.box3 (q := q9) (a := .int .i64 m) (b := .slice (some ⟨p, 0, none⟩) L.length pc) (e := .slice (some ⟨f9, 0, none⟩) ss.length fc) (t := 25) (by simp)
        go_wp2_with fail
        refine (Sides_any (B := w15.heap.size) (Nat.le_refl _) (HK5.out.rsH (v := .slice (some ⟨p, 0, none⟩) L.length pc) (hs := L) (by simp)) (HK5.out.rsI (v := .slice (some ⟨f9, 0, none⟩) ss.length fc) (l := ss) (by simp))).mono ?_
        rintro e w16 ⟨v15, er, slf, rfl, hb, hans, ho⟩
        obtain ⟨rfl, hsl, hsll⟩ := sides_ok HOF.out hans
        have HK6 := Lib.hid ((HK5.out.grow hb).addR (r := rwS v15 slf) HK5.out.o.2.2 ho)
        obtain ⟨a15, c15, rfl⟩ : ∃ g cap, v15 = .slice (some ⟨g, 0, none⟩) slf.length cap := form_pos (r := rwS v15 slf) ho (show 0 < slf.length by have := HLN.out; omega)
        have HSF := Lib.hid (And.intro hsl hsll)
        clear hb hans ho hsl hsll HK5 f0 f1 f2
        obtain ⟨o0, o1, o2⟩ := HK6.out.box3 (q := q12) (a := .int .i64 m) (b := .slice (some ⟨h12, 0, none⟩) H.length k12) (e := .slice (some ⟨s12, 0, none⟩) ss.length l12) (t := 25) (by simp)
        go_wp2_with fail
        refine (Sides_any (B := w16.heap.size) (Nat.le_refl _) (HK6.out.rsH (v := .slice (some ⟨h12, 0, none⟩) H.length k12) (hs := H) (by simp)) (HK6.out.rsI (v := .slice (some ⟨s12, 0, none⟩) ss.length l12) (l := ss) (by simp))).mono ?_
        rintro e w17 ⟨v17, er, slo, rfl, hb, hans, ho⟩
        obtain ⟨rfl, hsl, hsll⟩ := sides_ok HOO.out hans
        have HK7 := Lib.hid ((HK6.out.grow hb).addR (r := rwS v17 slo) HK6.out.o.2.2 ho)
        obtain ⟨a17, c17, rfl⟩ : ∃ g cap, v17 = .slice (some ⟨g, 0, none⟩) slo.length cap := form_pos (r := rwS v17 slo) ho (show 0 < slo.length by have := HLN.out; omega)
        have HSO := Lib.hid (And.intro hsl hsll)
        clear hb hans ho hsl hsll HK6 o0 o1 o2
        obtain ⟨b0, b1, b2⟩ := HK7.out.box3 (q := q) (a := .int .i64 m) (b := .slice (some ⟨ha, 0, none⟩) hs.length hcap) (e := .slice (some ⟨sa, 0, none⟩) ss.length scap) (t := 25) (by simp)
        go_wp2_with fail
        refine (Drains_any (B := w17.heap.size) (Nat.le_refl _) (HK7.out.rsH (v := .slice (some ⟨ha, 0, none⟩) hs.length hcap) (hs := hs) (by simp)) (HK7.out.rsI (v := .slice (some ⟨sa, 0, none⟩) ss.length scap) (l := ss) (by simp)) (HK7.out.rsI (v := .slice (some ⟨ta, 0, none⟩) T.length tcap) (l := T) (by simp))).mono ?_
        rintro e w18 ⟨v19, er1, l, rfl, hb, hans, ho⟩
        obtain ⟨her, hll, -⟩ := sure_drains HO.out HM.out.insp hans HSL.out.1
        subst her
        have HK8 := Lib.hid ((HK7.out.grow hb).addR (r := rwD v19 l) HK7.out.o.2.2 ho)
        obtain ⟨a19, c19, rfl⟩ : ∃ g cap, v19 = .slice (some ⟨g, 0, none⟩) l.length cap := form_pos (r := rwD v19 l) ho (show 0 < l.length by have := HLN.out; omega)
        have HDR := Lib.hid (And.intro hll hans)
        clear hb hans ho hll HK7 b0 b1 b2
        obtain ⟨o0, o1, o2⟩ := HK8.out.box3 (q := q12) (a := .int .i64 m) (b := .slice (some ⟨h12, 0, none⟩) H.length k12) (e := .slice (some ⟨s12, 0, none⟩) ss.length l12) (t := 25) (by simp)
        go_wp2_with fail
        refine (Doubt_any (B := w18.heap.size) (Nat.le_refl _) (HK8.out.rsH (v := .slice (some ⟨h12, 0, none⟩) H.length k12) (hs := H) (by simp)) (HK8.out.rsI (v := .slice (some ⟨s12, 0, none⟩) ss.length l12) (l := ss) (by simp))).mono ?_
        rintro e w19 ⟨v21, er, L0, rfl, hb, hans, ho⟩
        obtain ⟨rfl, rfl⟩ := doubt_ok HOO.out HSO.out.1 hans
        rw [own_doubt (l := l) HSO.out.2 (fun c hc => own_sides HO.out HM.out.insp HW.out HDR.out.2 HSO.out.1 hc)] at ho
        obtain ⟨a21, c21, rfl⟩ : ∃ a cap, v21 = .slice a 0 cap := row_form (r := ⟨3, 1, v21, 0, ints (([] : List Nat).map Int.ofNat)⟩) ho
        have HK9 := Lib.hid (HK8.out.grow hb)
        clear hb hans ho HK8 o0 o1 o2
        have hl1 : ((sl.length : Nat) : Int) = ((l.length : Nat) : Int) := by rw [HSL.out.2, HDR.out.1]
        have hl2 : ((slf.length : Nat) : Int) = ((l.length : Nat) : Int) := by rw [HSF.out.2, HDR.out.1]
        have hl3 : ((slo.length : Nat) : Int) = ((l.length : Nat) : Int) := by rw [HSO.out.2, HDR.out.1]
        go_wp2_with fail
        clear hl1 hl2 hl3
        go_loopw [148] (fun i W => ∃ j : Nat, j ≤ l.length ∧ i = .int .i64 j ∧ Hid (Kept w S d1 c [rwD (.slice (some ⟨a19, 0, none⟩) l.length c19) l, rwS (.slice (some ⟨a17, 0, none⟩) slo.length c17) slo, rwS (.slice (some ⟨a15, 0, none⟩) slf.length c15) slf, rwS (.slice (some ⟨a13, 0, none⟩) sl.length c13) sl, rwH (.slice (some ⟨h12, 0, none⟩) H.length k12) H, rwI (.slice (some ⟨s12, 0, none⟩) ss.length l12) ss, rwH (.slice (some ⟨p, 0, none⟩) L.length pc) L, rwI (.slice (some ⟨f9, 0, none⟩) ss.length fc) ss, rwI (.slice (some ⟨ta, 0, none⟩) T.length tcap) T, rwI (.slice (some ⟨sa, 0, none⟩) ss.length scap) ss, rwH (.slice (some ⟨ha, 0, none⟩) hs.length hcap) hs] [(q12, Obj.cells #[.int .i64 m, .slice (some ⟨h12, 0, none⟩) H.length k12, .slice (some ⟨s12, 0, none⟩) ss.length l12] 25 (0, 0)), (q9, Obj.cells #[.int .i64 m, .slice (some ⟨p, 0, none⟩) L.length pc, .slice (some ⟨f9, 0, none⟩) ss.length fc] 25 (0, 0)), (q, Obj.cells #[.int .i64 m, .slice (some ⟨ha, 0, none⟩) hs.length hcap, .slice (some ⟨sa, 0, none⟩) ss.length scap] 25 (0, 0))] W)) (fun i _ => l.length - (intOf i).toNat)
        case atStart => exact ⟨0, Nat.zero_le _, rfl, HK9⟩
        case round =>
          as_aux_lemma =>
            clear HK9
            obtain ⟨j, hj, rfl, HK⟩ := hrel
            by_cases hlj : j < l.length
            · have hj1 : j < sl.length := by have h1 := HSL.out.2; have h2 := HDR.out.1; omega
              have hj2 : j < slf.length := by have h1 := HSF.out.2; have h2 := HDR.out.1; omega
              have hj3 : j < slo.length := by have h1 := HSO.out.2; have h2 := HDR.out.1; omega
              have q0 := HK.out.cellD (g := a19) (cap := c19) (l := l) (by simp) hlj
              obtain ⟨q1, q2, q3⟩ := HK.out.cellS (g := a13) (cap := c13) (l := sl) (by simp) hj1
              obtain ⟨q4, q5, q6⟩ := HK.out.cellS (g := a15) (cap := c15) (l := slf) (by simp) hj2
              obtain ⟨q7, q8, q9'⟩ := HK.out.cellS (g := a17) (cap := c17) (l := slo) (by simp) hj3
              obtain ⟨i1, i2, i3⟩ := narrow_sides HO.out HFN.out HSL.out.1 HSF.out.1 (c := j) (by have h2 := HDR.out.1; omega)
              have i4 := own_sides HO.out HM.out.insp HW.out HDR.out.2 HSO.out.1 (c := j) (by have h2 := HDR.out.1; omega)
              obtain ⟨wj, hwj⟩ : ∃ wj, wj = l.getD j 0 := ⟨_, rfl⟩
              obtain ⟨⟨x1, x2, x3⟩, hxj⟩ : ∃ xj, xj = sl.getD j (false, false, false) := ⟨_, rfl⟩
              obtain ⟨⟨y1, y2, y3⟩, hyj⟩ : ∃ yj, yj = slf.getD j (false, false, false) := ⟨_, rfl⟩
              rw [← hwj] at q0 i4
              rw [i4] at q7 q8 q9'
              rw [← hxj] at q1 q2 q3 i1 i2 i3
              rw [← hyj] at q4 q5 q6 i1 i2 i3
              dsimp only at q1 q2 q3 q4 q5 q6 q7 q8 q9' i1 i2 i3
              have HI := Lib.hid (And.intro i1 (And.intro i2 i3))
              have HQ := Lib.hid (And.intro q0 (And.intro q7 (And.intro q8 q9')))
              have hi1 : (j : Int) < (l.length : Int) := by omega
              have hi2 : (j : Int) < (sl.length : Int) := by omega
              have hi4 : (j : Int) < (slf.length : Int) := by omega
              have hi5 : (j : Int) < (slo.length : Int) := by omega
              have hi3 : (j : Int) < 1000 := by have h2 := HDR.out.1; have h3 := HLN.out; omega
              clear hwj hxj hyj i1 i2 i3 i4 q0 q7 q8 q9'
              go_upto_region 20 with (fail)
              have hC : (fun W => (W.cell? ⟨a13, j * 3, none⟩ = some (.bool x1) ∧ W.cell? ⟨a13, j * 3 + 1, none⟩ = some (.bool x2) ∧ W.cell? ⟨a13, j * 3 + 2, none⟩ = some (.bool x3)) ∧ (W.cell? ⟨a15, j * 3, none⟩ = some (.bool y1) ∧ W.cell? ⟨a15, j * 3 + 1, none⟩ = some (.bool y2) ∧ W.cell? ⟨a15, j * 3 + 2, none⟩ = some (.bool y3))) wr.drew := ⟨⟨q1, q2, q3⟩, ⟨q4, q5, q6⟩⟩
              clear q1 q2 q3 q4 q5 q6
              have HKd := Lib.hid (HK.out.grow (Below.refl _ wr).drew)
              have hCC := Lib.hid hC
              have HQd := HQ
              refine Lim.regC' (fun W => (W.cell? ⟨a13, j * 3, none⟩ = some (.bool x1) ∧ W.cell? ⟨a13, j * 3 + 1, none⟩ = some (.bool x2) ∧ W.cell? ⟨a13, j * 3 + 2, none⟩ = some (.bool x3)) ∧ (W.cell? ⟨a15, j * 3, none⟩ = some (.bool y1) ∧ W.cell? ⟨a15, j * 3 + 1, none⟩ = some (.bool y2) ∧ W.cell? ⟨a15, j * 3 + 2, none⟩ = some (.bool y3))) [] #[false, false, false, false, false, false, false, false, false, false, false, false] (by kernel_rfl) rfl ?_
              refine Lim.stepR 0 (fun _ => trivial) rfl (by kernel_rfl) (fun _ _ _ _ h => h) hC rfl ?_; apply Exists.intro; refine ⟨?_, ?_⟩
              · rintro w ⟨⟨r1, r2, r3⟩, ⟨r4, r5, r6⟩⟩; go_simp; try with_reducible rfl
              simp only [Act.put, List.setIfInBounds_toArray, List.set_cons_succ, List.set_cons_zero]
              refine Lim.stepR 1 (fun _ => trivial) rfl (by kernel_rfl) (fun _ _ _ _ h => h) hC rfl ?_; apply Exists.intro; refine ⟨?_, ?_⟩
              · rintro w ⟨⟨r1, r2, r3⟩, ⟨r4, r5, r6⟩⟩; go_simp; try with_reducible rfl
              simp only [Act.put, List.setIfInBounds_toArray, List.set_cons_succ, List.set_cons_zero]
              refine Lim.stepR 2 (fun _ => trivial) rfl (by kernel_rfl) (fun _ _ _ _ h => h) hC rfl ?_; apply Exists.intro; refine ⟨?_, ?_⟩
              · rintro w ⟨⟨r1, r2, r3⟩, ⟨r4, r5, r6⟩⟩; go_simp; try with_reducible rfl
              simp only [Act.put, List.setIfInBounds_toArray, List.set_cons_succ, List.set_cons_zero]
              refine Lim.stepR 3 (fun _ => trivial) rfl (by kernel_rfl) (fun _ _ _ _ h => h) hC rfl ?_; apply Exists.intro; refine ⟨?_, ?_⟩
              · rintro w ⟨⟨r1, r2, r3⟩, ⟨r4, r5, r6⟩⟩; go_simp; try with_reducible rfl
              simp only [Act.put, List.setIfInBounds_toArray, List.set_cons_succ, List.set_cons_zero]
              refine Lim.stepR 4 (fun _ => trivial) rfl (by kernel_rfl) (fun _ _ _ _ h => h) hC rfl ?_; apply Exists.intro; refine ⟨?_, ?_⟩
              · rintro w ⟨⟨r1, r2, r3⟩, ⟨r4, r5, r6⟩⟩; go_simp; try with_reducible rfl
              simp only [Act.put, List.setIfInBounds_toArray, List.set_cons_succ, List.set_cons_zero]
              refine Lim.stepR 5 (fun _ => trivial) rfl (by kernel_rfl) (fun _ _ _ _ h => h) hC rfl ?_; apply Exists.intro; refine ⟨?_, ?_⟩
              · rintro w ⟨⟨r1, r2, r3⟩, ⟨r4, r5, r6⟩⟩; go_simp; try with_reducible rfl
              simp only [Act.put, List.setIfInBounds_toArray, List.set_cons_succ, List.set_cons_zero]
              refine Lim.stepR 6 (fun _ => trivial) rfl (by kernel_rfl) (fun _ _ _ _ h => h) hC rfl ?_; apply Exists.intro; refine ⟨?_, ?_⟩
              · rintro w ⟨⟨r1, r2, r3⟩, ⟨r4, r5, r6⟩⟩; go_simp; try with_reducible rfl
              simp only [Act.put, List.setIfInBounds_toArray, List.set_cons_succ, List.set_cons_zero]
              refine Lim.stepR 7 (fun _ => trivial) rfl (by kernel_rfl) (fun _ _ _ _ h => h) hC rfl ?_; apply Exists.intro; refine ⟨?_, ?_⟩
              · rintro w ⟨⟨r1, r2, r3⟩, ⟨r4, r5, r6⟩⟩; go_simp; try with_reducible rfl
              simp only [Act.put, List.setIfInBounds_toArray, List.set_cons_succ, List.set_cons_zero]
              clear hC
              refine Lim.parC [8, 9, 10, 11] (fun done a W => ∃ x24 x25, a = { tmps := #[.slice na ns.length nc, .slice ua ts.length uc, undef, undef, u4, .pointer (some ⟨w.heap.size, 0, none⟩), .pointer (some ⟨d1, 0, none⟩), .pointer (some ⟨q, 0, none⟩), .slice (some ⟨ta, 0, none⟩) T.length tcap, .pointer (some ⟨q9, 0, none⟩), u10, u11, .pointer (some ⟨q12, 0, none⟩), .slice (some ⟨a13, 0, none⟩) sl.length c13, .int .i64 0, .slice (some ⟨a15, 0, none⟩) slf.length c15, .int .i64 0, .slice (some ⟨a17, 0, none⟩) slo.length c17, .int .i64 0, .slice (some ⟨a19, 0, none⟩) l.length c19, .int .i64 0, .slice a21 0 c21, .int .i64 0, .int .i64 ↑j, x24, x25, undef, undef, undef, undef, undef, undef, .slice na ns.length nc, .pointer (some ⟨w.heap.size, 0, none⟩), .slice ua ts.length uc, .pointer (some ⟨d1, 0, none⟩), .tuple #[.agg #[.int .i64 ↑m, .slice (some ⟨ha, 0, none⟩) hs.length hcap, .slice (some ⟨sa, 0, none⟩) ss.length scap], .slice (some ⟨ta, 0, none⟩) T.length tcap], .pointer (some ⟨w.heap.size, 0, none⟩), .tuple #[.agg #[.int .i64 ↑m, .slice (some ⟨ha, 0, none⟩) hs.length hcap, .slice (some ⟨sa, 0, none⟩) ss.length scap], .slice (some ⟨ta, 0, none⟩) T.length tcap], .agg #[.int .i64 ↑m, .slice (some ⟨ha, 0, none⟩) hs.length hcap, .slice (some ⟨sa, 0, none⟩) ss.length scap], .slice (some ⟨ta, 0, none⟩) T.length tcap, .agg #[.int .i64 ↑m, .slice (some ⟨ha, 0, none⟩) hs.length hcap, .slice (some ⟨sa, 0, none⟩) ss.length scap], .agg #[.int .i64 ↑m, .slice (some ⟨p, 0, none⟩) hs.length pc, .slice (some ⟨f9, 0, none⟩) ss.length fc], .pointer (some ⟨q, 1, none⟩), .slice (some ⟨ha, 0, none⟩) hs.length hcap, .int .i64 ↑hs.length, .int .i64 ↑hs.length, .bool false, u48, u49, u50, u51, u52, u53, u54, u55, u56, u57, u58, u59, u60, u61, u62, u63, u64, u65, u66, u67, u68, u69, u70, u71, u72, .agg #[.int .i64 ↑m, .slice (some ⟨ha, 0, none⟩) hs.length hcap, .slice (some ⟨sa, 0, none⟩) ss.length scap], .slice (some ⟨ta, 0, none⟩) T.length tcap, .agg #[.int .i64 ↑m, .slice (some ⟨h12, 0, none⟩) H.length k12, .slice (some ⟨s12, 0, none⟩) ss.length l12], .tuple #[.slice (some ⟨a13, 0, none⟩) sl.length c13, .int .i64 0], .agg #[.int .i64 ↑m, .slice (some ⟨ha, 0, none⟩) hs.length hcap, .slice (some ⟨sa, 0, none⟩) ss.length scap], .tuple #[.slice (some ⟨a13, 0, none⟩) sl.length c13, .int .i64 0], .slice (some ⟨a13, 0, none⟩) sl.length c13, .int .i64 0, .tuple #[.slice (some ⟨a15, 0, none⟩) slf.length c15, .int .i64 0], .agg #[.int .i64 ↑m, .slice (some ⟨p, 0, none⟩) L.length pc, .slice (some ⟨f9, 0, none⟩) ss.length fc], .tuple #[.slice (some ⟨a15, 0, none⟩) slf.length c15, .int .i64 0], .slice (some ⟨a15, 0, none⟩) slf.length c15, .int .i64 0, .tuple #[.slice (some ⟨a17, 0, none⟩) slo.length c17, .int .i64 0], .agg #[.int .i64 ↑m, .slice (some ⟨h12, 0, none⟩) H.length k12, .slice (some ⟨s12, 0, none⟩) ss.length l12], .tuple #[.slice (some ⟨a17, 0, none⟩) slo.length c17, .int .i64 0], .slice (some ⟨a17, 0, none⟩) slo.length c17, .int .i64 0, .tuple #[.slice (some ⟨a19, 0, none⟩) l.length c19, .int .i64 0], .agg #[.int .i64 ↑m, .slice (some ⟨ha, 0, none⟩) hs.length hcap, .slice (some ⟨sa, 0, none⟩) ss.length scap], .slice (some ⟨ta, 0, none⟩) T.length tcap, .tuple #[.slice (some ⟨a19, 0, none⟩) l.length c19, .int .i64 0], .slice (some ⟨a19, 0, none⟩) l.length c19, .int .i64 0, .tuple #[.slice a21 0 c21, .int .i64 0], .agg #[.int .i64 ↑m, .slice (some ⟨h12, 0, none⟩) H.length k12, .slice (some ⟨s12, 0, none⟩) ss.length l12], .tuple #[.slice a21 0 c21, .int .i64 0], .slice a21 0 c21, .int .i64 0, .int .i64 0, .bool false, .bool false, .int .i64 0, .bool false, .bool false, .bool false, .int .i64 0, .bool false, .bool false, .bool false, .int .i64 0, .bool false, .bool false, .bool false, .int .i64 0, .bool false, .bool false, .bool false, .slice a21 0 c21, .int .i64 0, .bool false, .bool false, .bool false, .slice (some ⟨a13, 0, none⟩) sl.length c13, .int .i64 ↑l.length, .slice (some ⟨a19, 0, none⟩) l.length c19, .int .i64 ↑l.length, .bool false, .bool false, .bool false, .slice (some ⟨a15, 0, none⟩) slf.length c15, .int .i64 ↑l.length, .slice (some ⟨a19, 0, none⟩) l.length c19, .int .i64 ↑l.length, .bool false, .bool false, .bool false, .slice (some ⟨a17, 0, none⟩) slo.length c17, .int .i64 ↑l.length, .slice (some ⟨a19, 0, none⟩) l.length c19, .int .i64 ↑l.length, .bool false, .bool false, .slice (some ⟨a19, 0, none⟩) l.length c19, .int .i64 ↑l.length, .int .i64 ↑j, .bool true, .int .i64 ↑j, .slice (some ⟨a13, 0, none⟩) sl.length c13, .int .i64 ↑j, .pointer (some ⟨a13, j * 3, none⟩), .agg #[.bool x1, .bool x2, .bool x3], .slice (some ⟨a15, 0, none⟩) slf.length c15, .int .i64 ↑j, .pointer (some ⟨a15, j * 3, none⟩), .agg #[.bool y1, .bool y2, .bool y3], u159, u160, u161, u162, u163, u164, u165, u166, u167, u168, u169, u170, u171, u172, u173, u174, u175, u176, u177, u178, u179, u180, u181, u182, u183, u184, u185, u186, u187, u188, u189, u190, u191, u192, u193, u194, u195, u196, u197, u198, u199, u200, u201, u202, u203, u204, u205, u206, u207, undef, undef, undef, undef, undef, undef, undef, undef, undef, undef, undef, undef, undef, undef, undef, undef, undef, undef, undef, undef, undef, undef, undef, undef, undef, undef, undef, undef, undef, undef, undef, undef, undef, undef, undef, undef, undef, undef, undef, undef, undef, undef, undef, undef, undef, undef, undef, undef, undef, undef, undef, undef, undef, undef, undef, undef, undef, undef, undef, undef, undef, undef, undef, undef, undef, undef], defers := [] } ∧ TwoS wr.drew x1 x2 x3 y1 y2 y3 done x24 x25 W) (fun _ => trivial) (by kernel_rfl) rfl rfl ?hC ?step ?fin ⟨_, _, rfl, TwoS.begin _⟩
              case hC =>
                rintro done a W ⟨x24, x25, rfl, HT2⟩
                exact ⟨⟨cell_on HT2.b hCC.out.1.1, cell_on HT2.b hCC.out.1.2.1, cell_on HT2.b hCC.out.1.2.2⟩, ⟨cell_on HT2.b hCC.out.2.1, cell_on HT2.b hCC.out.2.2.1, cell_on HT2.b hCC.out.2.2.2⟩⟩
              case step =>
                intro i o hi ho done a W hd hdep hS K hK
                obtain ⟨x24, x25, rfl, HT2⟩ := hS
                simp only [List.mem_cons, List.not_mem_nil, or_false] at hi
                rcases hi with rfl | rfl | rfl | rfl
                · cases ho
                  clear hdep
                  go_simp
                  refine hK _ _ ?_
                  exact ⟨_, _, rfl, HT2.st8 hd⟩
                · cases ho
                  clear hdep
                  go_simp
                  refine hK _ _ ?_
                  exact ⟨_, _, rfl, HT2.st9 hd⟩
                · cases ho
                  have h8 := hdep 8 (by kernel_rfl) (by simp)
                  have h9 := hdep 9 (by kernel_rfl) (by simp)
                  clear hdep
                  obtain ⟨p24, rfl, hp1, hp2⟩ := HT2.d8 h8
                  rw [hd] at hp2
                  obtain ⟨⟨k0, k1, k2⟩, g0, g1, g2⟩ := cell_of_heap hp2
                  clear hp2
                  go_simp
                  refine hK _ _ ?_
                  exact ⟨_, _, rfl, HT2.st10 h8 h9 hd⟩
                · cases ho
                  have h8 := hdep 8 (by kernel_rfl) (by simp)
                  have h9 := hdep 9 (by kernel_rfl) (by simp)
                  clear hdep
                  obtain ⟨p25, rfl, hp1, hp2⟩ := HT2.d9 h9
                  rw [hd] at hp2
                  obtain ⟨⟨k0, k1, k2⟩, g0, g1, g2⟩ := cell_of_heap hp2
                  clear hp2
                  go_simp
                  refine hK _ _ ?_
                  exact ⟨_, _, rfl, HT2.st11 h8 h9 hd⟩
              case fin =>
                rintro done a W hall ⟨x24, x25, rfl, HT2⟩
                have h10 := hall 10 (by simp)
                have h11 := hall 11 (by simp)
                obtain ⟨p24, rfl, hp1, hp2⟩ := HT2.d8 (hall 8 (by simp))
                obtain ⟨p25, rfl, hp3, hp4⟩ := HT2.d9 (hall 9 (by simp))
                rw [h10] at hp2
                rw [h11] at hp4
                have HK2 : Hid (Kept w S d1 c [rwD (.slice (some ⟨a19, 0, none⟩) l.length c19) l, rwS (.slice (some ⟨a17, 0, none⟩) slo.length c17) slo, rwS (.slice (some ⟨a15, 0, none⟩) slf.length c15) slf, rwS (.slice (some ⟨a13, 0, none⟩) sl.length c13) sl, rwH (.slice (some ⟨h12, 0, none⟩) H.length k12) H, rwI (.slice (some ⟨s12, 0, none⟩) ss.length l12) ss, rwH (.slice (some ⟨p, 0, none⟩) L.length pc) L, rwI (.slice (some ⟨f9, 0, none⟩) ss.length fc) ss, rwI (.slice (some ⟨ta, 0, none⟩) T.length tcap) T, rwI (.slice (some ⟨sa, 0, none⟩) ss.length scap) ss, rwH (.slice (some ⟨ha, 0, none⟩) hs.length hcap) hs] ((p25, Obj.cells #[.bool y1, .bool y2, .bool y3] 41 (0, 0)) :: (p24, Obj.cells #[.bool x1, .bool x2, .bool x3] 41 (0, 0)) :: [(q12, Obj.cells #[.int .i64 m, .slice (some ⟨h12, 0, none⟩) H.length k12, .slice (some ⟨s12, 0, none⟩) ss.length l12] 25 (0, 0)), (q9, Obj.cells #[.int .i64 m, .slice (some ⟨p, 0, none⟩) L.length pc, .slice (some ⟨f9, 0, none⟩) ss.length fc] 25 (0, 0)), (q, Obj.cells #[.int .i64 m, .slice (some ⟨ha, 0, none⟩) hs.length hcap, .slice (some ⟨sa, 0, none⟩) ss.length scap] 25 (0, 0))]) W) := Lib.hid (((HKd.out.grow HT2.b).addX (Nat.le_trans HKd.out.o.2.2 hp1) hp2).addX (Nat.le_trans HKd.out.o.2.2 hp3) hp4)
                have q0 := cell_on HT2.b (show wr.drew.cell? ⟨a19, j, none⟩ = some (.int .i64 wj) from HQ.out.1)
                have q7 := cell_on HT2.b (show wr.drew.cell? ⟨a17, j * 3, none⟩ = some (.bool (wj == 1)) from HQ.out.2.1)
                have q8 := cell_on HT2.b (show wr.drew.cell? ⟨a17, j * 3 + 1, none⟩ = some (.bool (wj == 2)) from HQ.out.2.2.1)
                have q9' := cell_on HT2.b (show wr.drew.cell? ⟨a17, j * 3 + 2, none⟩ = some (.bool (wj == 3)) from HQ.out.2.2.2)
                obtain ⟨z1, hz1⟩ : ∃ z, (wj == 1) = z := ⟨_, rfl⟩
                obtain ⟨z2, hz2⟩ : ∃ z, (wj == 2) = z := ⟨_, rfl⟩
                obtain ⟨z3, hz3⟩ : ∃ z, (wj == 3) = z := ⟨_, rfl⟩
                rw [hz1] at q7
                rw [hz2] at q8
                rw [hz3] at q9'
                clear hall HT2 h10 h11 hp1 hp2 hp3 hp4 HK HKd HQ HQd hCC
                go_upto_region 21 with (fail)
                obtain ⟨e0, e1, e2⟩ := HK2.out.box3 (q := p24) (a := .bool x1) (b := .bool x2) (e := .bool x3) (t := 41) (by simp)
                obtain ⟨f0, f1, f2⟩ := HK2.out.box3 (q := p25) (a := .bool y1) (b := .bool y2) (e := .bool y3) (t := 41) (by simp)
                go_cut [206] from 159 to 206 (fun s206 wx => s206 = .bool false ∧ Hid (Kept w S d1 c [rwD (.slice (some ⟨a19, 0, none⟩) l.length c19) l, rwS (.slice (some ⟨a17, 0, none⟩) slo.length c17) slo, rwS (.slice (some ⟨a15, 0, none⟩) slf.length c15) slf, rwS (.slice (some ⟨a13, 0, none⟩) sl.length c13) sl, rwH (.slice (some ⟨h12, 0, none⟩) H.length k12) H, rwI (.slice (some ⟨s12, 0, none⟩) ss.length l12) ss, rwH (.slice (some ⟨p, 0, none⟩) L.length pc) L, rwI (.slice (some ⟨f9, 0, none⟩) ss.length fc) ss, rwI (.slice (some ⟨ta, 0, none⟩) T.length tcap) T, rwI (.slice (some ⟨sa, 0, none⟩) ss.length scap) ss, rwH (.slice (some ⟨ha, 0, none⟩) hs.length hcap) hs] ((p25, Obj.cells #[.bool y1, .bool y2, .bool y3] 41 (0, 0)) :: (p24, Obj.cells #[.bool x1, .bool x2, .bool x3] 41 (0, 0)) :: [(q12, Obj.cells #[.int .i64 m, .slice (some ⟨h12, 0, none⟩) H.length k12, .slice (some ⟨s12, 0, none⟩) ss.length l12] 25 (0, 0)), (q9, Obj.cells #[.int .i64 m, .slice (some ⟨p, 0, none⟩) L.length pc, .slice (some ⟨f9, 0, none⟩) ss.length fc] 25 (0, 0)), (q, Obj.cells #[.int .i64 m, .slice (some ⟨ha, 0, none⟩) hs.length hcap, .slice (some ⟨sa, 0, none⟩) ss.length scap] 25 (0, 0))]) wx))
                case first =>
                  as_aux_lemma =>
                    cases y1 with
                    | true =>
                      obtain rfl := HI.out.1 rfl
                      cases y2 with
                      | true =>
                        obtain rfl := HI.out.2.1 rfl
                        cases y3 with
                        | true =>
                          obtain rfl := HI.out.2.2 rfl
                          go_quiet (fail)
                          go_wp2_with fail
                          go_meet
                          case rel => exact ⟨rfl, Lib.hid (HK2.out.grow (below_drewN (Below.refl W.heap.size W) nq))⟩
                        | false =>
                          go_quiet (fail)
                          go_wp2_with fail
                          go_meet
                          case rel => exact ⟨rfl, Lib.hid (HK2.out.grow (below_drewN (Below.refl W.heap.size W) nq))⟩
                      | false =>
                        cases y3 with
                        | true =>
                          obtain rfl := HI.out.2.2 rfl
                          go_quiet (fail)
                          go_wp2_with fail
                          go_meet
                          case rel => exact ⟨rfl, Lib.hid (HK2.out.grow (below_drewN (Below.refl W.heap.size W) nq))⟩
                        | false =>
                          go_quiet (fail)
                          go_wp2_with fail
                          go_meet
                          case rel => exact ⟨rfl, Lib.hid (HK2.out.grow (below_drewN (Below.refl W.heap.size W) nq))⟩
                    | false =>
                      cases y2 with
                      | true =>
                        obtain rfl := HI.out.2.1 rfl
                        cases y3 with
                        | true =>
                          obtain rfl := HI.out.2.2 rfl
                          go_quiet (fail)
                          go_wp2_with fail
                          go_meet
                          case rel => exact ⟨rfl, Lib.hid (HK2.out.grow (below_drewN (Below.refl W.heap.size W) nq))⟩
                        | false =>
                          go_quiet (fail)
                          go_wp2_with fail
                          go_meet
                          case rel => exact ⟨rfl, Lib.hid (HK2.out.grow (below_drewN (Below.refl W.heap.size W) nq))⟩
                      | false =>
                        cases y3 with
                        | true =>
                          obtain rfl := HI.out.2.2 rfl
                          go_quiet (fail)
                          go_wp2_with fail
                          go_meet
                          case rel => exact ⟨rfl, Lib.hid (HK2.out.grow (below_drewN (Below.refl W.heap.size W) nq))⟩
                        | false =>
                          go_quiet (fail)
                          go_wp2_with fail
                          go_meet
                          case rel => exact ⟨rfl, Lib.hid (HK2.out.grow (below_drewN (Below.refl W.heap.size W) nq))⟩
                case rest =>
                  as_aux_lemma =>
                    obtain ⟨rfl, HK3⟩ := hcut
                    clear HK2 q0 q7 q8 q9' e0 e1 e2 f0 f1 f2 hz1 hz2 hz3
                    go_wp2
                    go_roundw
                    case rel => exact ⟨j + 1, by omega, by go_num, Lib.hid (HK3.out.less (fun r h => h) (fun p h => .tail _ (.tail _ h)))⟩
                    case measure => simp [intOf]; omega
            · have hjl : j = l.length := by omega
              subst hjl
              obtain ⟨b0, b1, b2⟩ := HK.out.box3 (q := q) (a := .int .i64 m) (b := .slice (some ⟨ha, 0, none⟩) hs.length hcap) (e := .slice (some ⟨sa, 0, none⟩) ss.length scap) (t := 25) (by simp)
              obtain ⟨f0, f1, f2⟩ := HK.out.box3 (q := q9) (a := .int .i64 m) (b := .slice (some ⟨p, 0, none⟩) L.length pc) (e := .slice (some ⟨f9, 0, none⟩) ss.length fc) (t := 25) (by simp)
              go_wp2_with fail
              refine (Saddle_any (B := wr.heap.size) (Nat.le_refl _) (HK.out.rsH (v := .slice (some ⟨ha, 0, none⟩) hs.length hcap) (hs := hs) (by simp)) (HK.out.rsI (v := .slice (some ⟨sa, 0, none⟩) ss.length scap) (l := ss) (by simp))).mono ?_
              rintro e w20 ⟨x, y, er, rfl, hb, hans⟩
              have HSD := Lib.hid hans
              have HKa := Lib.hid (HK.out.grow hb)
              clear hb hans HK b0 b1 b2 f0 f1 f2
              go_upto_region 25 with (fail)
              have HKb := Lib.hid (HKa.out.lay (.cells #[.int .i64 x, .int .i64 y] 54))
              obtain ⟨q26, hqe⟩ : ∃ q, q = w20.heap.size := ⟨_, rfl⟩
              simp only [← hqe] at HKb ⊢
              generalize w20.alloc (.cells #[.int .i64 x, .int .i64 y] 54) = w21 at HKb ⊢
              clear HKa hqe
              obtain ⟨f0, f1, f2⟩ := HKb.out.box3 (q := q9) (a := .int .i64 m) (b := .slice (some ⟨p, 0, none⟩) L.length pc) (e := .slice (some ⟨f9, 0, none⟩) ss.length fc) (t := 25) (by simp)
              go_wp2_with fail
              refine (Saddle_any (B := w21.heap.size) (Nat.le_refl _) (HKb.out.rsH (v := .slice (some ⟨p, 0, none⟩) L.length pc) (hs := L) (by simp)) (HKb.out.rsI (v := .slice (some ⟨f9, 0, none⟩) ss.length fc) (l := ss) (by simp))).mono ?_
              rintro e w22 ⟨xa, xb, er2, rfl, hb, hans⟩
              obtain ⟨her, her7, hsf⟩ := narrow_saddle HO.out HFN.out HSD.out hans
              subst her
              have HS2 := Lib.hid hans
              have HSS := Lib.hid (And.intro her7 hsf)
              have HKc := Lib.hid (HKb.out.grow hb)
              clear hb hans HKb f0 f1 f2 her7 hsf
              go_upto_region 26 with (fail)
              have HKd := Lib.hid (HKc.out.lay (.cells #[.int .i64 xa, .int .i64 xb] 54))
              obtain ⟨q27, hqe⟩ : ∃ q, q = w22.heap.size := ⟨_, rfl⟩
              simp only [← hqe] at HKd ⊢
              generalize w22.alloc (.cells #[.int .i64 xa, .int .i64 xb] 54) = w23 at HKd ⊢
              clear HKc hqe
              obtain ⟨b0, b1, b2⟩ := HKd.out.box3 (q := q) (a := .int .i64 m) (b := .slice (some ⟨ha, 0, none⟩) hs.length hcap) (e := .slice (some ⟨sa, 0, none⟩) ss.length scap) (t := 25) (by simp)
              go_wp2_with fail
              refine (Saddles_any (B := w23.heap.size) (Nat.le_refl _) (HKd.out.rsH (v := .slice (some ⟨ha, 0, none⟩) hs.length hcap) (hs := hs) (by simp)) (HKd.out.rsI (v := .slice (some ⟨sa, 0, none⟩) ss.length scap) (l := ss) (by simp))).mono ?_
              rintro e w24 ⟨v28, x', y', er', LA, rfl, hb, hans, ho, hn0, hn1⟩
              obtain ⟨rfl, rfl, rfl⟩ := HSD.out.unique hans
              have HKe := Lib.hid ((HKd.out.grow hb).addR (r := rwN v28 LA) HKd.out.o.2.2 ho)
              obtain ⟨a28, c28, rfl⟩ : ∃ a cap, v28 = .slice a LA.length cap := row_form (r := rwN v28 LA) ho
              have HCA : Hid (CanList m hs ss y er2 LA) := Lib.hid ⟨hn0, hn1⟩
              clear hb hans ho hn0 hn1 HKd b0 b1 b2
              obtain ⟨f0, f1, f2⟩ := HKe.out.box3 (q := q9) (a := .int .i64 m) (b := .slice (some ⟨p, 0, none⟩) L.length pc) (e := .slice (some ⟨f9, 0, none⟩) ss.length fc) (t := 25) (by simp)
              go_wp2_with fail
              refine (Saddles_any (B := w24.heap.size) (Nat.le_refl _) (HKe.out.rsH (v := .slice (some ⟨p, 0, none⟩) L.length pc) (hs := L) (by simp)) (HKe.out.rsI (v := .slice (some ⟨f9, 0, none⟩) ss.length fc) (l := ss) (by simp))).mono ?_
              rintro e w25 ⟨v29, x', y', er', LB, rfl, hb, hans, ho, hn0, hn1⟩
              obtain ⟨rfl, rfl, rfl⟩ := HS2.out.unique hans
              have HKf := Lib.hid ((HKe.out.grow hb).addR (r := rwN v29 LB) HKe.out.o.2.2 ho)
              obtain ⟨a29, c29, rfl⟩ : ∃ a cap, v29 = .slice a LB.length cap := row_form (r := rwN v29 LB) ho
              have HCB : Hid (CanList m L ss xb er2 LB) := Lib.hid ⟨hn0, hn1⟩
              clear hb hans ho hn0 hn1 HKe f0 f1 f2
              have hne : (er2 != er2) = false := by simp
              rcases HSS.out.1 with h0 | h7
              · subst h0
                clear hne
                go_wp2_with fail
                go_loopw [250] (fun i W => ∃ j : Nat, j ≤ LB.length ∧ i = .int .i64 j ∧ Hid (Kept w S d1 c [rwN (.slice a29 LB.length c29) LB, rwN (.slice a28 LA.length c28) LA, rwD (.slice (some ⟨a19, 0, none⟩) l.length c19) l, rwS (.slice (some ⟨a17, 0, none⟩) slo.length c17) slo, rwS (.slice (some ⟨a15, 0, none⟩) slf.length c15) slf, rwS (.slice (some ⟨a13, 0, none⟩) sl.length c13) sl, rwH (.slice (some ⟨h12, 0, none⟩) H.length k12) H, rwI (.slice (some ⟨s12, 0, none⟩) ss.length l12) ss, rwH (.slice (some ⟨p, 0, none⟩) L.length pc) L, rwI (.slice (some ⟨f9, 0, none⟩) ss.length fc) ss, rwI (.slice (some ⟨ta, 0, none⟩) T.length tcap) T, rwI (.slice (some ⟨sa, 0, none⟩) ss.length scap) ss, rwH (.slice (some ⟨ha, 0, none⟩) hs.length hcap) hs] [(q27, Obj.cells #[.int .i64 xa, .int .i64 xb] 54 (0, 0)), (q26, Obj.cells #[.int .i64 x, .int .i64 y] 54 (0, 0)), (q12, Obj.cells #[.int .i64 m, .slice (some ⟨h12, 0, none⟩) H.length k12, .slice (some ⟨s12, 0, none⟩) ss.length l12] 25 (0, 0)), (q9, Obj.cells #[.int .i64 m, .slice (some ⟨p, 0, none⟩) L.length pc, .slice (some ⟨f9, 0, none⟩) ss.length fc] 25 (0, 0)), (q, Obj.cells #[.int .i64 m, .slice (some ⟨ha, 0, none⟩) hs.length hcap, .slice (some ⟨sa, 0, none⟩) ss.length scap] 25 (0, 0))] W)) (fun i _ => LB.length - (intOf i).toNat)
                case atStart => exact ⟨0, Nat.zero_le _, rfl, HKf⟩
                case round =>
                  as_aux_lemma =>
                    clear HKf
                    obtain ⟨j, hj, rfl, HK⟩ := hrel
                    by_cases hlj : j < LB.length
                    · obtain ⟨g29, cc, e29, -⟩ := row_at (r := rwN (.slice a29 LB.length c29) LB) (HK.out.r _ (by simp)) (show 0 < LB.length from by omega)
                      obtain rfl : a29 = some ⟨g29, 0, none⟩ := by
                        have h := e29
                        simp only [rwN, Value.slice.injEq] at h
                        exact h.1
                      clear e29
                      have q0 := HK.out.cellN (g := g29) (cap := c29) (l := LB) (by simp) hlj
                      obtain ⟨cj, hcj⟩ : ∃ cj, cj = LB.getD j 0 := ⟨_, rfl⟩
                      rw [← hcj] at q0
                      have hmem : decide ((cj : Int) ∈ LA.map Int.ofNat) = true := by
                        have h := narrow_can HO.out HFN.out HSD.out HS2.out HCA.out HCB.out cj (by
                          rw [hcj, List.getD_eq_getElem?_getD, List.getElem?_eq_getElem hlj]
                          exact List.getElem_mem hlj)
                        rw [decide_eq_true_eq]
                        exact List.mem_map.2 ⟨cj, h, rfl⟩
                      have HMEM := Lib.hid hmem
                      have hi1 : (j : Int) < (LB.length : Int) := by omega
                      have hi3 : (j : Int) < 1000 := by have h2 := HCB.out.len; have h3 := HLN.out; omega
                      clear hcj hmem
                      go_wp2_with fail
                      refine (contains_any (B := wr.heap.size) (xs := LA.map Int.ofNat) (cj : Int) (by have h2 := HCA.out.len; have h3 := HLN.out; rw [List.length_map]; omega) (HK.out.rsN (v := .slice a28 LA.length c28) (l := LA) (by simp))).mono ?_
                      rintro e w' ⟨rfl, rfl⟩
                      rw [HMEM.out]
                      clear q0
                      go_wp2
                      go_roundw
                      case rel => exact ⟨j + 1, by omega, by go_num, HK⟩
                      case measure => simp [intOf]; omega
                    · have hjl : j = LB.length := by omega
                      subst hjl
                      obtain ⟨e0, e1⟩ := HK.out.box2 (q := q26) (a := .int .i64 x) (b := .int .i64 y) (t := 54) (by simp)
                      obtain ⟨f0, f1⟩ := HK.out.box2 (q := q27) (a := .int .i64 xa) (b := .int .i64 xb) (t := 54) (by simp)
                      have hg1 : x ≤ xa := (HSS.out.2 (by first | rfl | trivial)).1
                      have hg2 : xb ≤ y := (HSS.out.2 (by first | rfl | trivial)).2.1
                      have hg3 : decide (x ≤ xa) = true := by rw [decide_eq_true_eq]; exact hg1
                      have hg4 : decide (xb ≤ y) = true := by rw [decide_eq_true_eq]; exact hg2
                      go_wp2_with fail
                      refine (awake_any _).mono ?_
                      rintro e wz ⟨rfl, hb⟩
                      have HB := Lib.hid (HK.out.b.trans (hb.mono HK.out.b.size))
                      clear hb
                      go_wp2
                      go_ret
                      exact ⟨rfl, HB.out⟩
              · subst h7
                go_wp2_with fail
                refine (awake_any _).mono ?_
                rintro e wz ⟨rfl, hb⟩
                have HB := Lib.hid (HKf.out.b.trans (hb.mono HKf.out.b.size))
                clear hb
                go_wp2
                go_ret
                exact ⟨rfl, HB.out⟩
end Go.Proofs.Ytdgibmgifgdpbaa
