/-
  Parts of the proof, in the order in which they build: Nbr.
-/
import Derived.RangeFuncNested
import Derived.RangeFuncBound
import Derived.RangeFuncCalls
import Derived.RangeFuncLeaves
import Derived.Shelf.Abstract
import Derived.WalkKit
import Derived.IntWalk
import Derived.Lib.Hide
import Derived.OwnWalkIn
import Derived.TacticsInMore
import Derived.LoopNIn
import Derived.LoopIn
import Derived.Test.YtohjinbgbfggcaaRows
import Derived.Test.YtohjinbgbfggcaaA0
import Derived.Test.YtohjinbgbfggcaaR1
set_option linter.unusedVariables false
set_option linter.unusedSimpArgs false
namespace Go.Proofs.Ytohjinbgbfggcaa.Rg
open Go.RowKit Go.Shelf
attribute [local go_sem] Oper.semAt_some

/-- the cells that the iterator reads -/
def Cn (bw bc b wd N cap c : Nat) (ha : Option Addr) (w : World) : Prop :=
  w.cell? ⟨bw, 0, none⟩ = some (.pointer (some ⟨b, 0, none⟩)) ∧ w.cell? ⟨bc, 0, none⟩ = some (.int .i64 c) ∧ w.cell? ⟨b, 0, none⟩ = some (.int .i64 wd) ∧ w.cell? ⟨b, 1, none⟩ = some (.slice ha N cap)
theorem Cn.drew {bw bc b wd N cap c : Nat} {ha : Option Addr} {w : World} (h : Cn bw bc b wd N cap c ha w) : Cn bw bc b wd N cap c ha w.drew := h
theorem pfx0 {wd N c col : Nat} (h : 0 < col) : [] ++ [(c : Int) - 1] <+: nbrK wd N c col := ⟨nB wd col c ++ nC wd c ++ nD wd N c, by simp [nbrK, nA, h]⟩
theorem pfx1 {wd N c col : Nat} (h : col + 1 < wd) : nA col c ++ [(c : Int) + 1] <+: nbrK wd N c col := ⟨nC wd c ++ nD wd N c, by simp [nbrK, nB, h]⟩
theorem pfx2 {wd N c col : Nat} (h : wd ≤ c) : nA col c ++ nB wd col c ++ [(c : Int) - wd] <+: nbrK wd N c col := ⟨nD wd N c, by simp [nbrK, nC, h]⟩
theorem pfx3 {wd N c col : Nat} (h : c + wd < N) : nA col c ++ nB wd col c ++ nC wd c ++ [(c : Int) + wd] <+: nbrK wd N c col := ⟨[], by simp [nbrK, nD, h]⟩
set_option maxRecDepth 100000 in
set_option maxHeartbeats 1000000 in
theorem nbr1_col (F : Fence) (n : Nat) (hF : ∀ f, F.fn f) (hd : F.depth = none) (hro : F.round = none) (l bw bc b wd N c col cap : Nat) (hcol : Hid (col = c % wd)) (ha : Option Addr) (J Jx : List Int → World → Prop)
    (hY : ∀ pre x W, J pre W → pre ++ [x] <+: nbrK wd N c col → YieldAt F (n - 1) Try.prog l #[.int .i64 x] W fun e W' =>
      (e = .returned (.bool true) ∧ J (pre ++ [x]) W' ∧ (Cn bw bc b wd N cap c ha W → Cn bw bc b wd N cap c ha W')) ∨ (e = .returned (.bool false) ∧ Jx (pre ++ [x]) W'))
    (hJd : ∀ pre W, J pre W → J pre W.drew)
    (W : World) (hw0 : 0 < wd) (hwd : wd ≤ 100) (hN : N ≤ 100) (hc : c < 100)
    (hC0 : Cn bw bc b wd N cap c ha W) (h0 : J [] W) :
    CallsIn F n Try.prog 98 #[.func (.yield l) #[] #[], .pointer (some ⟨bw, 0, none⟩), .pointer (some ⟨bc, 0, none⟩)] W fun e W' => (∃ v, e = .returned v) ∧
      ((∃ ys, ys = nbrK wd N c col ∧ J ys W') ∨ (∃ pre, pre <+: nbrK wd N c col ∧ Jx pre W')) := by
  have hwne : ¬ wd = 0 := by omega
  have hcl : col < wd := by have := Nat.mod_lt c hw0; rw [hcol.out]; exact this
  have hcc : col ≤ c := by rw [hcol.out]; exact Nat.mod_le _ _
  have e5 : (c : Int).tmod (wd : Int) = (col : Int) := by rw [hcol.out]; exact (Int.ofNat_tmod c wd).symm
  refine callsIn_of_wp Try.func98 rfl (hF _) ?_ hro
  simp only [Try.ntmps98, List.size_toArray, List.length_cons, List.length_nil, Nat.reduceAdd, Nat.reduceSub, Array.replicate_succ, Array.replicate_zero, List.push_toArray, List.append_toArray, List.nil_append, List.cons_append]
  refine wpIn_seq_k (fun K0 hK0 => ?_)
  have hC : (Cn bw bc b wd N cap c ha) W.drew := hC0
  refine Lim.regC (Cn bw bc b wd N cap c ha) [] #[false, false, false, false, false, false, false, false, false, false, false, false, false, false, false] (by kernel_rfl) rfl ?_
  refine Lim.stepR 0 hF rfl (by kernel_rfl) (fun _ _ _ _ h => h) hC rfl ?_; apply Exists.intro; refine ⟨?_, ?_⟩
  · rintro w ⟨r1, r2, r3, r4⟩; go_simp; try with_reducible rfl
  simp only [Act.put, List.setIfInBounds_toArray, List.set_cons_succ, List.set_cons_zero]
  refine Lim.stepR 1 hF rfl (by kernel_rfl) (fun _ _ _ _ h => h) hC rfl ?_; apply Exists.intro; refine ⟨?_, ?_⟩
  · rintro w ⟨r1, r2, r3, r4⟩; go_simp; try with_reducible rfl
  simp only [Act.put, List.setIfInBounds_toArray, List.set_cons_succ, List.set_cons_zero]
  refine Lim.stepR 2 hF rfl (by kernel_rfl) (fun _ _ _ _ h => h) hC rfl ?_; apply Exists.intro; refine ⟨?_, ?_⟩
  · rintro w ⟨r1, r2, r3, r4⟩; go_simp; try with_reducible rfl
  simp only [Act.put, List.setIfInBounds_toArray, List.set_cons_succ, List.set_cons_zero]
  refine Lim.stepR 3 hF rfl (by kernel_rfl) (fun _ _ _ _ h => h) hC rfl ?_; apply Exists.intro; refine ⟨?_, ?_⟩
  · rintro w ⟨r1, r2, r3, r4⟩; go_simp; try with_reducible rfl
  simp only [Act.put, List.setIfInBounds_toArray, List.set_cons_succ, List.set_cons_zero]
  refine Lim.stepR 4 hF rfl (by kernel_rfl) (fun _ _ _ _ h => h) hC rfl ?_; apply Exists.intro; refine ⟨?_, ?_⟩
  · rintro w ⟨r1, r2, r3, r4⟩; go_simp; try with_reducible rfl
  simp only [Act.put, List.setIfInBounds_toArray, List.set_cons_succ, List.set_cons_zero]
  refine Lim.stepR 5 hF rfl (by kernel_rfl) (fun _ _ _ _ h => h) hC rfl ?_; apply Exists.intro; refine ⟨?_, ?_⟩
  · rintro w ⟨r1, r2, r3, r4⟩; go_simp; try with_reducible rfl
  simp only [Act.put, List.setIfInBounds_toArray, List.set_cons_succ, List.set_cons_zero]
  refine Lim.stepR 6 hF rfl (by kernel_rfl) (fun _ _ _ _ h => h) hC rfl ?_; apply Exists.intro; refine ⟨?_, ?_⟩
  · rintro w ⟨r1, r2, r3, r4⟩; go_simp; try with_reducible rfl
  simp only [Act.put, List.setIfInBounds_toArray, List.set_cons_succ, List.set_cons_zero]
  refine Lim.stepR 7 hF rfl (by kernel_rfl) (fun _ _ _ _ h => h) hC rfl ?_; apply Exists.intro; refine ⟨?_, ?_⟩
  · rintro w ⟨r1, r2, r3, r4⟩; go_simp; try with_reducible rfl
  simp only [Act.put, List.setIfInBounds_toArray, List.set_cons_succ, List.set_cons_zero]
  refine Lim.stepR 8 hF rfl (by kernel_rfl) (fun _ _ _ _ h => h) hC rfl ?_; apply Exists.intro; refine ⟨?_, ?_⟩
  · rintro w ⟨r1, r2, r3, r4⟩; go_simp; try with_reducible rfl
  simp only [Act.put, List.setIfInBounds_toArray, List.set_cons_succ, List.set_cons_zero]
  refine Lim.stepR 9 hF rfl (by kernel_rfl) (fun _ _ _ _ h => h) hC rfl ?_; apply Exists.intro; refine ⟨?_, ?_⟩
  · rintro w ⟨r1, r2, r3, r4⟩; go_simp; try with_reducible rfl
  simp only [Act.put, List.setIfInBounds_toArray, List.set_cons_succ, List.set_cons_zero]
  refine Lim.stepR 10 hF rfl (by kernel_rfl) (fun _ _ _ _ h => h) hC rfl ?_; apply Exists.intro; refine ⟨?_, ?_⟩
  · rintro w ⟨r1, r2, r3, r4⟩; go_simp; try with_reducible rfl
  simp only [Act.put, List.setIfInBounds_toArray, List.set_cons_succ, List.set_cons_zero]
  refine Lim.stepR 11 hF rfl (by kernel_rfl) (fun _ _ _ _ h => h) hC rfl ?_; apply Exists.intro; refine ⟨?_, ?_⟩
  · rintro w ⟨r1, r2, r3, r4⟩; go_simp; try with_reducible rfl
  simp only [Act.put, List.setIfInBounds_toArray, List.set_cons_succ, List.set_cons_zero]
  refine Lim.stepR 12 hF rfl (by kernel_rfl) (fun _ _ _ _ h => h) hC rfl ?_; apply Exists.intro; refine ⟨?_, ?_⟩
  · rintro w ⟨r1, r2, r3, r4⟩; go_simp; try with_reducible rfl
  simp only [Act.put, List.setIfInBounds_toArray, List.set_cons_succ, List.set_cons_zero]
  refine Lim.stepR 13 hF rfl (by kernel_rfl) (fun _ _ _ _ h => h) hC rfl ?_; apply Exists.intro; refine ⟨?_, ?_⟩
  · rintro w ⟨r1, r2, r3, r4⟩; go_simp; try with_reducible rfl
  simp only [Act.put, List.setIfInBounds_toArray, List.set_cons_succ, List.set_cons_zero]
  refine Lim.stepR 14 hF rfl (by kernel_rfl) (fun _ _ _ _ h => h) hC rfl ?_; apply Exists.intro; refine ⟨?_, ?_⟩
  · rintro w ⟨r1, r2, r3, r4⟩; go_simp; try with_reducible rfl
  simp only [Act.put, List.setIfInBounds_toArray, List.set_cons_succ, List.set_cons_zero]
  refine Lim.stepD (by kernel_rfl) ?_
  refine hK0 _ _ ?_
  refine wpIn_seq_k (fun K1 hK1 => ?_)
  refine wpIn_seq_k (fun K2 hK2 => ?_)
  refine Lim.regC (Cn bw bc b wd N cap c ha) [6, 22, 43] #[false, false, false, false, false, false, false, false, false, false, false, false, false, false, false, false, false, false, false, false, false, false, false, false, false, false, false, false, false, false, false, false, false, false, false, false, false, false, false, false, false, false, false, false, false, false, false] (by kernel_rfl) rfl ?_
  refine Lim.cutC (fun a w => a = { tmps := #[.func (.yield l) #[] #[], .pointer (some ⟨bw, 0, none⟩), .pointer (some ⟨bc, 0, none⟩), undef, .int .i64 N, .int .i64 (col : Int), Lim.sl a 6, Lim.sl a 7, Lim.sl a 8, Lim.sl a 9, Lim.sl a 10, Lim.sl a 11, Lim.sl a 12, Lim.sl a 13, Lim.sl a 14, Lim.sl a 15, Lim.sl a 16, Lim.sl a 17, Lim.sl a 18, Lim.sl a 19, Lim.sl a 20, Lim.sl a 21, Lim.sl a 22, Lim.sl a 23, Lim.sl a 24, Lim.sl a 25, Lim.sl a 26, Lim.sl a 27, Lim.sl a 28, Lim.sl a 29, Lim.sl a 30, Lim.sl a 31, Lim.sl a 32, Lim.sl a 33, Lim.sl a 34, Lim.sl a 35, Lim.sl a 36, Lim.sl a 37, Lim.sl a 38, Lim.sl a 39, Lim.sl a 40, Lim.sl a 41, Lim.sl a 42, Lim.sl a 43, Lim.sl a 44, Lim.sl a 45, Lim.sl a 46, Lim.sl a 47, Lim.sl a 48, Lim.sl a 49, Lim.sl a 50, Lim.sl a 51, Lim.sl a 52, Lim.sl a 53, Lim.sl a 54, Lim.sl a 55, Lim.sl a 56, Lim.sl a 57, Lim.sl a 58, Lim.sl a 59, Lim.sl a 60, Lim.sl a 61, Lim.sl a 62, Lim.sl a 63, Lim.sl a 64, .bool false, undef, undef, undef, undef, undef, undef, undef, undef, undef, undef, undef, undef, undef, undef, undef, undef, undef, undef], defers := [] } ∧ J (nA col c ++ nB wd col c ++ nC wd c) w ∧ (Cn bw bc b wd N cap c ha) w) 0 #[true, true, true, true, true, true, true, true, true, true, true, true, true, true, true, true, true, true, true, true, true, true, true, true, true, true, true, true, true, true, true, true, true, true, true, true, true, true, true, true, true, true, true, true, true, true, true] ?_ (fun hm2 => ?_)
  · rintro a w ⟨hfr, hJ1, hC1⟩
    generalize Lim.sl a = x at hfr
    subst hfr
    refine ⟨by kernel_rfl, ?_⟩
    refine hK2 _ _ ?_
    refine wpIn_cond_false rfl ?_
    refine wpIn_skip ?_
    refine hK1 _ _ ?_
    refine wpIn_seq_k (fun K3 hK3 => ?_)
    by_cases hg : c + wd < N
    · have hz : IntKind.i64.wrap ((c : Int) + wd) = (c : Int) + wd := IntWalk.i64_in _ (by omega)
      have hlt : decide ((c : Int) + wd < N) = true := by simp; omega
      refine Lim.regC (Cn bw bc b wd N cap c ha) [] #[false, false, false, false, false, false, false, false, false] (by kernel_rfl) rfl ?_
      refine Lim.stepR 0 hF rfl (by kernel_rfl) (fun _ _ _ _ h => h) hC1.drew rfl ?_; apply Exists.intro; refine ⟨?_, ?_⟩
      · rintro w ⟨r1, r2, r3, r4⟩; go_simp; try with_reducible rfl
      simp only [Act.put, List.setIfInBounds_toArray, List.set_cons_succ, List.set_cons_zero]
      refine Lim.stepR 1 hF rfl (by kernel_rfl) (fun _ _ _ _ h => h) hC1.drew rfl ?_; apply Exists.intro; refine ⟨?_, ?_⟩
      · rintro w ⟨r1, r2, r3, r4⟩; go_simp; try with_reducible rfl
      simp only [Act.put, List.setIfInBounds_toArray, List.set_cons_succ, List.set_cons_zero]
      refine Lim.stepR 2 hF rfl (by kernel_rfl) (fun _ _ _ _ h => h) hC1.drew rfl ?_; apply Exists.intro; refine ⟨?_, ?_⟩
      · rintro w ⟨r1, r2, r3, r4⟩; go_simp; try with_reducible rfl
      simp only [Act.put, List.setIfInBounds_toArray, List.set_cons_succ, List.set_cons_zero]
      refine Lim.stepR 3 hF rfl (by kernel_rfl) (fun _ _ _ _ h => h) hC1.drew rfl ?_; apply Exists.intro; refine ⟨?_, ?_⟩
      · rintro w ⟨r1, r2, r3, r4⟩; go_simp; try with_reducible rfl
      simp only [Act.put, List.setIfInBounds_toArray, List.set_cons_succ, List.set_cons_zero]
      refine Lim.stepR 4 hF rfl (by kernel_rfl) (fun _ _ _ _ h => h) hC1.drew rfl ?_; apply Exists.intro; refine ⟨?_, ?_⟩
      · rintro w ⟨r1, r2, r3, r4⟩; go_simp; try with_reducible rfl
      simp only [Act.put, List.setIfInBounds_toArray, List.set_cons_succ, List.set_cons_zero]
      refine Lim.stepR 5 hF rfl (by kernel_rfl) (fun _ _ _ _ h => h) hC1.drew rfl ?_; apply Exists.intro; refine ⟨?_, ?_⟩
      · rintro w ⟨r1, r2, r3, r4⟩; go_simp; try with_reducible rfl
      simp only [Act.put, List.setIfInBounds_toArray, List.set_cons_succ, List.set_cons_zero]
      refine Lim.stepR 6 hF rfl (by kernel_rfl) (fun _ _ _ _ h => h) hC1.drew rfl ?_; apply Exists.intro; refine ⟨?_, ?_⟩
      · rintro w ⟨r1, r2, r3, r4⟩; go_simp; try with_reducible rfl
      simp only [Act.put, List.setIfInBounds_toArray, List.set_cons_succ, List.set_cons_zero]
      refine Lim.stepR 7 hF rfl (by kernel_rfl) (fun _ _ _ _ h => h) hC1.drew rfl ?_; apply Exists.intro; refine ⟨?_, ?_⟩
      · rintro w ⟨r1, r2, r3, r4⟩; go_simp; try with_reducible rfl
      simp only [Act.put, List.setIfInBounds_toArray, List.set_cons_succ, List.set_cons_zero]
      refine Lim.stepR 8 hF rfl (by kernel_rfl) (fun _ _ _ _ h => h) hC1.drew rfl ?_; apply Exists.intro; refine ⟨?_, ?_⟩
      · rintro w ⟨r1, r2, r3, r4⟩; go_simp; try with_reducible rfl
      simp only [Act.put, List.setIfInBounds_toArray, List.set_cons_succ, List.set_cons_zero]
      refine Lim.stepD (by kernel_rfl) ?_
      refine hK3 _ _ ?_
      refine wpIn_cond_true rfl ?_
      refine Lim.regC (Cn bw bc b wd N cap c ha) [8] #[false, false, false, false, false, false, false, false, false] (by kernel_rfl) rfl ?_
      refine Lim.stepR 0 hF rfl (by kernel_rfl) (fun _ _ _ _ h => h) hC1.drew.drew rfl ?_; apply Exists.intro; refine ⟨?_, ?_⟩
      · rintro w ⟨r1, r2, r3, r4⟩; go_simp; try with_reducible rfl
      simp only [Act.put, List.setIfInBounds_toArray, List.set_cons_succ, List.set_cons_zero]
      refine Lim.stepR 1 hF rfl (by kernel_rfl) (fun _ _ _ _ h => h) hC1.drew.drew rfl ?_; apply Exists.intro; refine ⟨?_, ?_⟩
      · rintro w ⟨r1, r2, r3, r4⟩; go_simp; try with_reducible rfl
      simp only [Act.put, List.setIfInBounds_toArray, List.set_cons_succ, List.set_cons_zero]
      refine Lim.stepR 2 hF rfl (by kernel_rfl) (fun _ _ _ _ h => h) hC1.drew.drew rfl ?_; apply Exists.intro; refine ⟨?_, ?_⟩
      · rintro w ⟨r1, r2, r3, r4⟩; go_simp; try with_reducible rfl
      simp only [Act.put, List.setIfInBounds_toArray, List.set_cons_succ, List.set_cons_zero]
      refine Lim.stepR 3 hF rfl (by kernel_rfl) (fun _ _ _ _ h => h) hC1.drew.drew rfl ?_; apply Exists.intro; refine ⟨?_, ?_⟩
      · rintro w ⟨r1, r2, r3, r4⟩; go_simp; try with_reducible rfl
      simp only [Act.put, List.setIfInBounds_toArray, List.set_cons_succ, List.set_cons_zero]
      refine Lim.stepR 4 hF rfl (by kernel_rfl) (fun _ _ _ _ h => h) hC1.drew.drew rfl ?_; apply Exists.intro; refine ⟨?_, ?_⟩
      · rintro w ⟨r1, r2, r3, r4⟩; go_simp; try with_reducible rfl
      simp only [Act.put, List.setIfInBounds_toArray, List.set_cons_succ, List.set_cons_zero]
      refine Lim.stepR 5 hF rfl (by kernel_rfl) (fun _ _ _ _ h => h) hC1.drew.drew rfl ?_; apply Exists.intro; refine ⟨?_, ?_⟩
      · rintro w ⟨r1, r2, r3, r4⟩; go_simp; try with_reducible rfl
      simp only [Act.put, List.setIfInBounds_toArray, List.set_cons_succ, List.set_cons_zero]
      refine Lim.stepR 6 hF rfl (by kernel_rfl) (fun _ _ _ _ h => h) hC1.drew.drew rfl ?_; apply Exists.intro; refine ⟨?_, ?_⟩
      · rintro w ⟨r1, r2, r3, r4⟩; go_simp; try with_reducible rfl
      simp only [Act.put, List.setIfInBounds_toArray, List.set_cons_succ, List.set_cons_zero]
      refine Lim.stepR 7 hF rfl (by kernel_rfl) (fun _ _ _ _ h => h) hC1.drew.drew rfl ?_; apply Exists.intro; refine ⟨?_, ?_⟩
      · rintro w ⟨r1, r2, r3, r4⟩; go_simp; try with_reducible rfl
      simp only [Act.put, List.setIfInBounds_toArray, List.set_cons_succ, List.set_cons_zero]
      refine Lim.stepX 8 hF rfl (by kernel_rfl) rfl rfl (fun K hK => ?_)
      go_simp
      obtain ⟨fn, tmps, assign, body, hy, hR⟩ := hY (nA col c ++ nB wd col c ++ nC wd c) ((c : Int) + wd) w.drew.drew (hJd _ _ (hJd _ _ hJ1)) (pfx3 hg)
      rw [hy]
      simp only [Oper.uponIn]
      refine ⟨fun h => (by rw [hd] at h; cases h), hR.mono ?_⟩
      rintro e W2 (⟨rfl, hJ2, hb2⟩ | ⟨rfl, hJx2⟩)
      · refine hK _ _ ?_
        simp only [Act.put, List.setIfInBounds_toArray, List.set_cons_succ, List.set_cons_zero]
        refine Lim.segC (fun _ => True) [] ?_
        refine Lim.stepD (by kernel_rfl) ?_
        refine bodyPost_end (results_none rfl _ _ _) rfl ?_
        exact ⟨⟨_, rfl⟩, .inl ⟨_, by simp [nbrK, nD, hg], hJ2⟩⟩
      · refine hK _ _ ?_
        simp only [Act.put, List.setIfInBounds_toArray, List.set_cons_succ, List.set_cons_zero]
        refine Lim.segC (fun _ => True) [] ?_
        refine Lim.stepD (by kernel_rfl) ?_
        refine bodyPost_end (results_none rfl _ _ _) rfl ?_
        exact ⟨⟨_, rfl⟩, .inr ⟨_, pfx3 hg, hJx2⟩⟩
    · have hz : IntKind.i64.wrap ((c : Int) + wd) = (c : Int) + wd := IntWalk.i64_in _ (by omega)
      have hlt : decide ((c : Int) + wd < N) = false := by simp; omega
      refine Lim.regC (Cn bw bc b wd N cap c ha) [] #[false, false, false, false, false, false, false, false, false] (by kernel_rfl) rfl ?_
      refine Lim.stepR 0 hF rfl (by kernel_rfl) (fun _ _ _ _ h => h) hC1.drew rfl ?_; apply Exists.intro; refine ⟨?_, ?_⟩
      · rintro w ⟨r1, r2, r3, r4⟩; go_simp; try with_reducible rfl
      simp only [Act.put, List.setIfInBounds_toArray, List.set_cons_succ, List.set_cons_zero]
      refine Lim.stepR 1 hF rfl (by kernel_rfl) (fun _ _ _ _ h => h) hC1.drew rfl ?_; apply Exists.intro; refine ⟨?_, ?_⟩
      · rintro w ⟨r1, r2, r3, r4⟩; go_simp; try with_reducible rfl
      simp only [Act.put, List.setIfInBounds_toArray, List.set_cons_succ, List.set_cons_zero]
      refine Lim.stepR 2 hF rfl (by kernel_rfl) (fun _ _ _ _ h => h) hC1.drew rfl ?_; apply Exists.intro; refine ⟨?_, ?_⟩
      · rintro w ⟨r1, r2, r3, r4⟩; go_simp; try with_reducible rfl
      simp only [Act.put, List.setIfInBounds_toArray, List.set_cons_succ, List.set_cons_zero]
      refine Lim.stepR 3 hF rfl (by kernel_rfl) (fun _ _ _ _ h => h) hC1.drew rfl ?_; apply Exists.intro; refine ⟨?_, ?_⟩
      · rintro w ⟨r1, r2, r3, r4⟩; go_simp; try with_reducible rfl
      simp only [Act.put, List.setIfInBounds_toArray, List.set_cons_succ, List.set_cons_zero]
      refine Lim.stepR 4 hF rfl (by kernel_rfl) (fun _ _ _ _ h => h) hC1.drew rfl ?_; apply Exists.intro; refine ⟨?_, ?_⟩
      · rintro w ⟨r1, r2, r3, r4⟩; go_simp; try with_reducible rfl
      simp only [Act.put, List.setIfInBounds_toArray, List.set_cons_succ, List.set_cons_zero]
      refine Lim.stepR 5 hF rfl (by kernel_rfl) (fun _ _ _ _ h => h) hC1.drew rfl ?_; apply Exists.intro; refine ⟨?_, ?_⟩
      · rintro w ⟨r1, r2, r3, r4⟩; go_simp; try with_reducible rfl
      simp only [Act.put, List.setIfInBounds_toArray, List.set_cons_succ, List.set_cons_zero]
      refine Lim.stepR 6 hF rfl (by kernel_rfl) (fun _ _ _ _ h => h) hC1.drew rfl ?_; apply Exists.intro; refine ⟨?_, ?_⟩
      · rintro w ⟨r1, r2, r3, r4⟩; go_simp; try with_reducible rfl
      simp only [Act.put, List.setIfInBounds_toArray, List.set_cons_succ, List.set_cons_zero]
      refine Lim.stepR 7 hF rfl (by kernel_rfl) (fun _ _ _ _ h => h) hC1.drew rfl ?_; apply Exists.intro; refine ⟨?_, ?_⟩
      · rintro w ⟨r1, r2, r3, r4⟩; go_simp; try with_reducible rfl
      simp only [Act.put, List.setIfInBounds_toArray, List.set_cons_succ, List.set_cons_zero]
      refine Lim.stepR 8 hF rfl (by kernel_rfl) (fun _ _ _ _ h => h) hC1.drew rfl ?_; apply Exists.intro; refine ⟨?_, ?_⟩
      · rintro w ⟨r1, r2, r3, r4⟩; go_simp; try with_reducible rfl
      simp only [Act.put, List.setIfInBounds_toArray, List.set_cons_succ, List.set_cons_zero]
      refine Lim.stepD (by kernel_rfl) ?_
      refine hK3 _ _ ?_
      refine wpIn_cond_false rfl ?_
      refine wpIn_skip ?_
      refine bodyPost_end (results_none rfl _ _ _) rfl ?_
      exact ⟨⟨_, rfl⟩, .inl ⟨_, by simp [nbrK, nD, hg], hJd _ _ hJ1⟩⟩
  refine Lim.cutC (fun a w => a = { tmps := #[.func (.yield l) #[] #[], .pointer (some ⟨bw, 0, none⟩), .pointer (some ⟨bc, 0, none⟩), undef, .int .i64 N, .int .i64 (col : Int), Lim.sl a 6, Lim.sl a 7, Lim.sl a 8, Lim.sl a 9, Lim.sl a 10, Lim.sl a 11, Lim.sl a 12, Lim.sl a 13, Lim.sl a 14, Lim.sl a 15, Lim.sl a 16, Lim.sl a 17, Lim.sl a 18, Lim.sl a 19, Lim.sl a 20, Lim.sl a 21, Lim.sl a 22, Lim.sl a 23, Lim.sl a 24, Lim.sl a 25, Lim.sl a 26, Lim.sl a 27, Lim.sl a 28, Lim.sl a 29, Lim.sl a 30, Lim.sl a 31, Lim.sl a 32, Lim.sl a 33, Lim.sl a 34, Lim.sl a 35, Lim.sl a 36, Lim.sl a 37, Lim.sl a 38, Lim.sl a 39, Lim.sl a 40, Lim.sl a 41, Lim.sl a 42, Lim.sl a 43, Lim.sl a 44, .bool false, undef, undef, undef, undef, undef, undef, undef, undef, undef, undef, undef, undef, undef, undef, undef, undef, undef, undef, undef, undef, undef, undef, undef, undef, undef, undef, undef, undef, undef, undef, undef, undef, undef, undef, undef, undef, undef, undef], defers := [] } ∧ J (nA col c ++ nB wd col c) w ∧ (Cn bw bc b wd N cap c ha) w) 20 #[true, true, true, true, true, true, true, true, true, true, true, true, true, true, true, true, true, true, true, true, true, true, true, true, true, true, true, false, false, false, false, false, false, false, false, false, false, false, false, false, false, false, false, false, false, false, false] ?_ (fun hm1 => ?_)
  · rintro a w ⟨hfr, hJ1, hC1⟩
    generalize Lim.sl a = x at hfr
    subst hfr
    by_cases hg : wd ≤ c
    · have hx : IntKind.i64.wrap ((c : Int) - wd) = (c : Int) - wd := IntWalk.i64_in _ (by omega)
      have hgd : decide ((wd : Int) ≤ (c : Int)) = true := by simp; omega
      refine Lim.stepR 27 hF rfl (by kernel_rfl) (fun _ _ _ _ h => h) hC1 rfl ?_; apply Exists.intro; refine ⟨?_, ?_⟩
      · rintro w ⟨r1, r2, r3, r4⟩; go_simp; try with_reducible rfl
      simp only [Act.put, List.setIfInBounds_toArray, List.set_cons_succ, List.set_cons_zero]
      refine Lim.stepR 28 hF rfl (by kernel_rfl) (fun _ _ _ _ h => h) hC1 rfl ?_; apply Exists.intro; refine ⟨?_, ?_⟩
      · rintro w ⟨r1, r2, r3, r4⟩; go_simp; try with_reducible rfl
      simp only [Act.put, List.setIfInBounds_toArray, List.set_cons_succ, List.set_cons_zero]
      refine Lim.stepR 29 hF rfl (by kernel_rfl) (fun _ _ _ _ h => h) hC1 rfl ?_; apply Exists.intro; refine ⟨?_, ?_⟩
      · rintro w ⟨r1, r2, r3, r4⟩; go_simp; try with_reducible rfl
      simp only [Act.put, List.setIfInBounds_toArray, List.set_cons_succ, List.set_cons_zero]
      refine Lim.stepR 30 hF rfl (by kernel_rfl) (fun _ _ _ _ h => h) hC1 rfl ?_; apply Exists.intro; refine ⟨?_, ?_⟩
      · rintro w ⟨r1, r2, r3, r4⟩; go_simp; try with_reducible rfl
      simp only [Act.put, List.setIfInBounds_toArray, List.set_cons_succ, List.set_cons_zero]
      refine Lim.stepR 31 hF rfl (by kernel_rfl) (fun _ _ _ _ h => h) hC1 rfl ?_; apply Exists.intro; refine ⟨?_, ?_⟩
      · rintro w ⟨r1, r2, r3, r4⟩; go_simp; try with_reducible rfl
      simp only [Act.put, List.setIfInBounds_toArray, List.set_cons_succ, List.set_cons_zero]
      refine Lim.stepR 32 hF rfl (by kernel_rfl) (fun _ _ _ _ h => h) hC1 rfl ?_; apply Exists.intro; refine ⟨?_, ?_⟩
      · rintro w ⟨r1, r2, r3, r4⟩; go_simp; try with_reducible rfl
      simp only [Act.put, List.setIfInBounds_toArray, List.set_cons_succ, List.set_cons_zero]
      refine Lim.stepR 33 hF rfl (by kernel_rfl) (fun _ _ _ _ h => h) hC1 rfl ?_; apply Exists.intro; refine ⟨?_, ?_⟩
      · rintro w ⟨r1, r2, r3, r4⟩; go_simp; try with_reducible rfl
      simp only [Act.put, List.setIfInBounds_toArray, List.set_cons_succ, List.set_cons_zero]
      refine Lim.stepR 34 hF rfl (by kernel_rfl) (fun _ _ _ _ h => h) hC1 rfl ?_; apply Exists.intro; refine ⟨?_, ?_⟩
      · rintro w ⟨r1, r2, r3, r4⟩; go_simp; try with_reducible rfl
      simp only [Act.put, List.setIfInBounds_toArray, List.set_cons_succ, List.set_cons_zero]
      refine Lim.stepR 35 hF rfl (by kernel_rfl) (fun _ _ _ _ h => h) hC1 rfl ?_; apply Exists.intro; refine ⟨?_, ?_⟩
      · rintro w ⟨r1, r2, r3, r4⟩; go_simp; try with_reducible rfl
      simp only [Act.put, List.setIfInBounds_toArray, List.set_cons_succ, List.set_cons_zero]
      refine Lim.stepR 36 hF rfl (by kernel_rfl) (fun _ _ _ _ h => h) hC1 rfl ?_; apply Exists.intro; refine ⟨?_, ?_⟩
      · rintro w ⟨r1, r2, r3, r4⟩; go_simp; try with_reducible rfl
      simp only [Act.put, List.setIfInBounds_toArray, List.set_cons_succ, List.set_cons_zero]
      refine Lim.stepR 37 hF rfl (by kernel_rfl) (fun _ _ _ _ h => h) hC1 rfl ?_; apply Exists.intro; refine ⟨?_, ?_⟩
      · rintro w ⟨r1, r2, r3, r4⟩; go_simp; try with_reducible rfl
      simp only [Act.put, List.setIfInBounds_toArray, List.set_cons_succ, List.set_cons_zero]
      refine Lim.stepR 38 hF rfl (by kernel_rfl) (fun _ _ _ _ h => h) hC1 rfl ?_; apply Exists.intro; refine ⟨?_, ?_⟩
      · rintro w ⟨r1, r2, r3, r4⟩; go_simp; try with_reducible rfl
      simp only [Act.put, List.setIfInBounds_toArray, List.set_cons_succ, List.set_cons_zero]
      refine Lim.stepR 39 hF rfl (by kernel_rfl) (fun _ _ _ _ h => h) hC1 rfl ?_; apply Exists.intro; refine ⟨?_, ?_⟩
      · rintro w ⟨r1, r2, r3, r4⟩; go_simp; try with_reducible rfl
      simp only [Act.put, List.setIfInBounds_toArray, List.set_cons_succ, List.set_cons_zero]
      refine Lim.stepR 40 hF rfl (by kernel_rfl) (fun _ _ _ _ h => h) hC1 rfl ?_; apply Exists.intro; refine ⟨?_, ?_⟩
      · rintro w ⟨r1, r2, r3, r4⟩; go_simp; try with_reducible rfl
      simp only [Act.put, List.setIfInBounds_toArray, List.set_cons_succ, List.set_cons_zero]
      refine Lim.stepR 41 hF rfl (by kernel_rfl) (fun _ _ _ _ h => h) hC1 rfl ?_; apply Exists.intro; refine ⟨?_, ?_⟩
      · rintro w ⟨r1, r2, r3, r4⟩; go_simp; try with_reducible rfl
      simp only [Act.put, List.setIfInBounds_toArray, List.set_cons_succ, List.set_cons_zero]
      refine Lim.stepR 42 hF rfl (by kernel_rfl) (fun _ _ _ _ h => h) hC1 rfl ?_; apply Exists.intro; refine ⟨?_, ?_⟩
      · rintro w ⟨r1, r2, r3, r4⟩; go_simp; try with_reducible rfl
      simp only [Act.put, List.setIfInBounds_toArray, List.set_cons_succ, List.set_cons_zero]
      refine Lim.stepX 43 hF rfl (by kernel_rfl) rfl rfl (fun K hK => ?_)
      go_simp
      obtain ⟨fn, tmps, assign, body, hy, hR⟩ := hY (nA col c ++ nB wd col c) ((c : Int) - wd) w hJ1 (pfx2 hg)
      rw [hy]
      simp only [Oper.uponIn]
      refine ⟨fun h => (by rw [hd] at h; cases h), hR.mono ?_⟩
      rintro e W2 (⟨rfl, hJ2, hb2⟩ | ⟨rfl, hJx2⟩)
      · refine hK _ _ ?_
        have hC2 : (Cn bw bc b wd N cap c ha) W2 := hb2 hC1
        simp only [Act.put, List.setIfInBounds_toArray, List.set_cons_succ, List.set_cons_zero]
        refine Lim.segC (Cn bw bc b wd N cap c ha) [6, 22, 43] ?_
        refine Lim.stepR 44 hF rfl (by kernel_rfl) (fun _ _ _ _ h => h) hC2 rfl ?_; apply Exists.intro; refine ⟨?_, ?_⟩
        · rintro w ⟨r1, r2, r3, r4⟩; go_simp; try with_reducible rfl
        simp only [Act.put, List.setIfInBounds_toArray, List.set_cons_succ, List.set_cons_zero]
        refine Lim.stepR 45 hF rfl (by kernel_rfl) (fun _ _ _ _ h => h) hC2 rfl ?_; apply Exists.intro; refine ⟨?_, ?_⟩
        · rintro w ⟨r1, r2, r3, r4⟩; go_simp; try with_reducible rfl
        simp only [Act.put, List.setIfInBounds_toArray, List.set_cons_succ, List.set_cons_zero]
        refine Lim.stepR 46 hF rfl (by kernel_rfl) (fun _ _ _ _ h => h) hC2 rfl ?_; apply Exists.intro; refine ⟨?_, ?_⟩
        · rintro w ⟨r1, r2, r3, r4⟩; go_simp; try with_reducible rfl
        simp only [Act.put, List.setIfInBounds_toArray, List.set_cons_succ, List.set_cons_zero]
        exact hm2 _ _ ⟨rfl, (by simpa [nC, hg] using hJ2), hC2⟩
      · refine hK _ _ ?_
        simp only [Act.put, List.setIfInBounds_toArray, List.set_cons_succ, List.set_cons_zero]
        refine Lim.segC (fun _ => True) [] ?_
        refine Lim.stepR 44 hF rfl (by kernel_rfl) (fun _ _ _ _ h => h) trivial rfl ?_; apply Exists.intro; refine ⟨?_, ?_⟩
        · rintro w _; go_simp; try with_reducible rfl
        simp only [Act.put, List.setIfInBounds_toArray, List.set_cons_succ, List.set_cons_zero]
        refine Lim.stepR 45 hF rfl (by kernel_rfl) (fun _ _ _ _ h => h) trivial rfl ?_; apply Exists.intro; refine ⟨?_, ?_⟩
        · rintro w _; go_simp; try with_reducible rfl
        simp only [Act.put, List.setIfInBounds_toArray, List.set_cons_succ, List.set_cons_zero]
        refine Lim.stepR 46 hF rfl (by kernel_rfl) (fun _ _ _ _ h => h) trivial rfl ?_; apply Exists.intro; refine ⟨?_, ?_⟩
        · rintro w _; go_simp; try with_reducible rfl
        simp only [Act.put, List.setIfInBounds_toArray, List.set_cons_succ, List.set_cons_zero]
        refine Lim.stepD (by kernel_rfl) ?_
        refine hK2 _ _ ?_
        refine wpIn_cond_true rfl ?_
        refine wpIn_ret ?_
        simp only [Exit.then]
        refine bodyPost_ret (results_none rfl _ _ _) rfl ?_
        exact ⟨⟨_, rfl⟩, .inr ⟨_, pfx2 hg, hJx2⟩⟩
    · have hgd : decide ((wd : Int) ≤ (c : Int)) = false := by simp; omega
      refine Lim.stepR 27 hF rfl (by kernel_rfl) (fun _ _ _ _ h => h) hC1 rfl ?_; apply Exists.intro; refine ⟨?_, ?_⟩
      · rintro w ⟨r1, r2, r3, r4⟩; go_simp; try with_reducible rfl
      simp only [Act.put, List.setIfInBounds_toArray, List.set_cons_succ, List.set_cons_zero]
      refine Lim.stepR 28 hF rfl (by kernel_rfl) (fun _ _ _ _ h => h) hC1 rfl ?_; apply Exists.intro; refine ⟨?_, ?_⟩
      · rintro w ⟨r1, r2, r3, r4⟩; go_simp; try with_reducible rfl
      simp only [Act.put, List.setIfInBounds_toArray, List.set_cons_succ, List.set_cons_zero]
      refine Lim.stepR 29 hF rfl (by kernel_rfl) (fun _ _ _ _ h => h) hC1 rfl ?_; apply Exists.intro; refine ⟨?_, ?_⟩
      · rintro w ⟨r1, r2, r3, r4⟩; go_simp; try with_reducible rfl
      simp only [Act.put, List.setIfInBounds_toArray, List.set_cons_succ, List.set_cons_zero]
      refine Lim.stepR 30 hF rfl (by kernel_rfl) (fun _ _ _ _ h => h) hC1 rfl ?_; apply Exists.intro; refine ⟨?_, ?_⟩
      · rintro w ⟨r1, r2, r3, r4⟩; go_simp; try with_reducible rfl
      simp only [Act.put, List.setIfInBounds_toArray, List.set_cons_succ, List.set_cons_zero]
      refine Lim.stepR 31 hF rfl (by kernel_rfl) (fun _ _ _ _ h => h) hC1 rfl ?_; apply Exists.intro; refine ⟨?_, ?_⟩
      · rintro w ⟨r1, r2, r3, r4⟩; go_simp; try with_reducible rfl
      simp only [Act.put, List.setIfInBounds_toArray, List.set_cons_succ, List.set_cons_zero]
      refine Lim.stepR 32 hF rfl (by kernel_rfl) (fun _ _ _ _ h => h) hC1 rfl ?_; apply Exists.intro; refine ⟨?_, ?_⟩
      · rintro w ⟨r1, r2, r3, r4⟩; go_simp; try with_reducible rfl
      simp only [Act.put, List.setIfInBounds_toArray, List.set_cons_succ, List.set_cons_zero]
      refine Lim.stepR 33 hF rfl (by kernel_rfl) (fun _ _ _ _ h => h) hC1 rfl ?_; apply Exists.intro; refine ⟨?_, ?_⟩
      · rintro w ⟨r1, r2, r3, r4⟩; go_simp; try with_reducible rfl
      simp only [Act.put, List.setIfInBounds_toArray, List.set_cons_succ, List.set_cons_zero]
      refine Lim.stepR 34 hF rfl (by kernel_rfl) (fun _ _ _ _ h => h) hC1 rfl ?_; apply Exists.intro; refine ⟨?_, ?_⟩
      · rintro w ⟨r1, r2, r3, r4⟩; go_simp; try with_reducible rfl
      simp only [Act.put, List.setIfInBounds_toArray, List.set_cons_succ, List.set_cons_zero]
      refine Lim.stepS 35 hF rfl (by kernel_rfl) (fun _ _ _ _ h => h) hC1 rfl ?_
      simp only [Act.put, List.setIfInBounds_toArray, List.set_cons_succ, List.set_cons_zero]
      refine Lim.stepS 36 hF rfl (by kernel_rfl) (fun _ _ _ _ h => h) hC1 rfl ?_
      simp only [Act.put, List.setIfInBounds_toArray, List.set_cons_succ, List.set_cons_zero]
      refine Lim.stepS 37 hF rfl (by kernel_rfl) (fun _ _ _ _ h => h) hC1 rfl ?_
      simp only [Act.put, List.setIfInBounds_toArray, List.set_cons_succ, List.set_cons_zero]
      refine Lim.stepS 38 hF rfl (by kernel_rfl) (fun _ _ _ _ h => h) hC1 rfl ?_
      simp only [Act.put, List.setIfInBounds_toArray, List.set_cons_succ, List.set_cons_zero]
      refine Lim.stepS 39 hF rfl (by kernel_rfl) (fun _ _ _ _ h => h) hC1 rfl ?_
      simp only [Act.put, List.setIfInBounds_toArray, List.set_cons_succ, List.set_cons_zero]
      refine Lim.stepS 40 hF rfl (by kernel_rfl) (fun _ _ _ _ h => h) hC1 rfl ?_
      simp only [Act.put, List.setIfInBounds_toArray, List.set_cons_succ, List.set_cons_zero]
      refine Lim.stepS 41 hF rfl (by kernel_rfl) (fun _ _ _ _ h => h) hC1 rfl ?_
      simp only [Act.put, List.setIfInBounds_toArray, List.set_cons_succ, List.set_cons_zero]
      refine Lim.stepS 42 hF rfl (by kernel_rfl) (fun _ _ _ _ h => h) hC1 rfl ?_
      simp only [Act.put, List.setIfInBounds_toArray, List.set_cons_succ, List.set_cons_zero]
      refine Lim.stepS 43 hF rfl (by kernel_rfl) (fun _ _ _ _ h => h) hC1 rfl ?_
      simp only [Act.put, List.setIfInBounds_toArray, List.set_cons_succ, List.set_cons_zero]
      refine Lim.stepS 44 hF rfl (by kernel_rfl) (fun _ _ _ _ h => h) hC1 rfl ?_
      simp only [Act.put, List.setIfInBounds_toArray, List.set_cons_succ, List.set_cons_zero]
      refine Lim.stepR 45 hF rfl (by kernel_rfl) (fun _ _ _ _ h => h) hC1 rfl ?_; apply Exists.intro; refine ⟨?_, ?_⟩
      · rintro w ⟨r1, r2, r3, r4⟩; go_simp; try with_reducible rfl
      simp only [Act.put, List.setIfInBounds_toArray, List.set_cons_succ, List.set_cons_zero]
      refine Lim.stepR 46 hF rfl (by kernel_rfl) (fun _ _ _ _ h => h) hC1 rfl ?_; apply Exists.intro; refine ⟨?_, ?_⟩
      · rintro w ⟨r1, r2, r3, r4⟩; go_simp; try with_reducible rfl
      simp only [Act.put, List.setIfInBounds_toArray, List.set_cons_succ, List.set_cons_zero]
      exact hm2 _ _ ⟨rfl, (by simpa [nC, hg] using hJ1), hC1⟩
  refine Lim.cutC (fun a w => a = { tmps := #[.func (.yield l) #[] #[], .pointer (some ⟨bw, 0, none⟩), .pointer (some ⟨bc, 0, none⟩), undef, .int .i64 N, .int .i64 (col : Int), Lim.sl a 6, Lim.sl a 7, Lim.sl a 8, Lim.sl a 9, Lim.sl a 10, Lim.sl a 11, Lim.sl a 12, Lim.sl a 13, Lim.sl a 14, Lim.sl a 15, Lim.sl a 16, Lim.sl a 17, Lim.sl a 18, Lim.sl a 19, Lim.sl a 20, Lim.sl a 21, Lim.sl a 22, Lim.sl a 23, Lim.sl a 24, Lim.sl a 25, Lim.sl a 26, Lim.sl a 27, .bool false, undef, undef, undef, undef, undef, undef, undef, undef, undef, undef, undef, undef, undef, undef, undef, undef, undef, undef, undef, undef, undef, undef, undef, undef, undef, undef, undef, undef, undef, undef, undef, undef, undef, undef, undef, undef, undef, undef, undef, undef, undef, undef, undef, undef, undef, undef, undef, undef, undef, undef, undef, undef, undef, undef, undef], defers := [] } ∧ J (nA col c) w ∧ (Cn bw bc b wd N cap c ha) w) 37 #[true, true, true, true, true, true, true, true, true, true, false, false, false, false, false, false, false, false, false, false, false, false, false, false, false, false, false, false, false, false, false, false, false, false, false, false, false, false, false, false, false, false, false, false, false, false, false] ?_ (fun hm0 => ?_)
  · rintro a w ⟨hfr, hJ1, hC1⟩
    generalize Lim.sl a = x at hfr
    subst hfr
    have hx1 : IntKind.i64.wrap ((col : Int) + 1) = (col : Int) + 1 := IntWalk.i64_in _ (by omega)
    by_cases hg : col + 1 < wd
    · have hx : IntKind.i64.wrap ((c : Int) + 1) = (c : Int) + 1 := IntWalk.i64_in _ (by omega)
      have hgd : decide ((col : Int) + 1 < (wd : Int)) = true := by simp; omega
      refine Lim.stepR 10 hF rfl (by kernel_rfl) (fun _ _ _ _ h => h) hC1 rfl ?_; apply Exists.intro; refine ⟨?_, ?_⟩
      · rintro w ⟨r1, r2, r3, r4⟩; go_simp; try with_reducible rfl
      simp only [Act.put, List.setIfInBounds_toArray, List.set_cons_succ, List.set_cons_zero]
      refine Lim.stepR 11 hF rfl (by kernel_rfl) (fun _ _ _ _ h => h) hC1 rfl ?_; apply Exists.intro; refine ⟨?_, ?_⟩
      · rintro w ⟨r1, r2, r3, r4⟩; go_simp; try with_reducible rfl
      simp only [Act.put, List.setIfInBounds_toArray, List.set_cons_succ, List.set_cons_zero]
      refine Lim.stepR 12 hF rfl (by kernel_rfl) (fun _ _ _ _ h => h) hC1 rfl ?_; apply Exists.intro; refine ⟨?_, ?_⟩
      · rintro w ⟨r1, r2, r3, r4⟩; go_simp; try with_reducible rfl
      simp only [Act.put, List.setIfInBounds_toArray, List.set_cons_succ, List.set_cons_zero]
      refine Lim.stepR 13 hF rfl (by kernel_rfl) (fun _ _ _ _ h => h) hC1 rfl ?_; apply Exists.intro; refine ⟨?_, ?_⟩
      · rintro w ⟨r1, r2, r3, r4⟩; go_simp; try with_reducible rfl
      simp only [Act.put, List.setIfInBounds_toArray, List.set_cons_succ, List.set_cons_zero]
      refine Lim.stepR 14 hF rfl (by kernel_rfl) (fun _ _ _ _ h => h) hC1 rfl ?_; apply Exists.intro; refine ⟨?_, ?_⟩
      · rintro w ⟨r1, r2, r3, r4⟩; go_simp; try with_reducible rfl
      simp only [Act.put, List.setIfInBounds_toArray, List.set_cons_succ, List.set_cons_zero]
      refine Lim.stepR 15 hF rfl (by kernel_rfl) (fun _ _ _ _ h => h) hC1 rfl ?_; apply Exists.intro; refine ⟨?_, ?_⟩
      · rintro w ⟨r1, r2, r3, r4⟩; go_simp; try with_reducible rfl
      simp only [Act.put, List.setIfInBounds_toArray, List.set_cons_succ, List.set_cons_zero]
      refine Lim.stepR 16 hF rfl (by kernel_rfl) (fun _ _ _ _ h => h) hC1 rfl ?_; apply Exists.intro; refine ⟨?_, ?_⟩
      · rintro w ⟨r1, r2, r3, r4⟩; go_simp; try with_reducible rfl
      simp only [Act.put, List.setIfInBounds_toArray, List.set_cons_succ, List.set_cons_zero]
      refine Lim.stepR 17 hF rfl (by kernel_rfl) (fun _ _ _ _ h => h) hC1 rfl ?_; apply Exists.intro; refine ⟨?_, ?_⟩
      · rintro w ⟨r1, r2, r3, r4⟩; go_simp; try with_reducible rfl
      simp only [Act.put, List.setIfInBounds_toArray, List.set_cons_succ, List.set_cons_zero]
      refine Lim.stepR 18 hF rfl (by kernel_rfl) (fun _ _ _ _ h => h) hC1 rfl ?_; apply Exists.intro; refine ⟨?_, ?_⟩
      · rintro w ⟨r1, r2, r3, r4⟩; go_simp; try with_reducible rfl
      simp only [Act.put, List.setIfInBounds_toArray, List.set_cons_succ, List.set_cons_zero]
      refine Lim.stepR 19 hF rfl (by kernel_rfl) (fun _ _ _ _ h => h) hC1 rfl ?_; apply Exists.intro; refine ⟨?_, ?_⟩
      · rintro w ⟨r1, r2, r3, r4⟩; go_simp; try with_reducible rfl
      simp only [Act.put, List.setIfInBounds_toArray, List.set_cons_succ, List.set_cons_zero]
      refine Lim.stepR 20 hF rfl (by kernel_rfl) (fun _ _ _ _ h => h) hC1 rfl ?_; apply Exists.intro; refine ⟨?_, ?_⟩
      · rintro w ⟨r1, r2, r3, r4⟩; go_simp; try with_reducible rfl
      simp only [Act.put, List.setIfInBounds_toArray, List.set_cons_succ, List.set_cons_zero]
      refine Lim.stepR 21 hF rfl (by kernel_rfl) (fun _ _ _ _ h => h) hC1 rfl ?_; apply Exists.intro; refine ⟨?_, ?_⟩
      · rintro w ⟨r1, r2, r3, r4⟩; go_simp; try with_reducible rfl
      simp only [Act.put, List.setIfInBounds_toArray, List.set_cons_succ, List.set_cons_zero]
      refine Lim.stepX 22 hF rfl (by kernel_rfl) rfl rfl (fun K hK => ?_)
      go_simp
      obtain ⟨fn, tmps, assign, body, hy, hR⟩ := hY (nA col c) ((c : Int) + 1) w hJ1 (pfx1 hg)
      rw [hy]
      simp only [Oper.uponIn]
      refine ⟨fun h => (by rw [hd] at h; cases h), hR.mono ?_⟩
      rintro e W2 (⟨rfl, hJ2, hb2⟩ | ⟨rfl, hJx2⟩)
      · refine hK _ _ ?_
        have hC2 : (Cn bw bc b wd N cap c ha) W2 := hb2 hC1
        simp only [Act.put, List.setIfInBounds_toArray, List.set_cons_succ, List.set_cons_zero]
        refine Lim.segC (Cn bw bc b wd N cap c ha) [6, 22, 43] ?_
        refine Lim.stepR 23 hF rfl (by kernel_rfl) (fun _ _ _ _ h => h) hC2 rfl ?_; apply Exists.intro; refine ⟨?_, ?_⟩
        · rintro w ⟨r1, r2, r3, r4⟩; go_simp; try with_reducible rfl
        simp only [Act.put, List.setIfInBounds_toArray, List.set_cons_succ, List.set_cons_zero]
        refine Lim.stepR 24 hF rfl (by kernel_rfl) (fun _ _ _ _ h => h) hC2 rfl ?_; apply Exists.intro; refine ⟨?_, ?_⟩
        · rintro w ⟨r1, r2, r3, r4⟩; go_simp; try with_reducible rfl
        simp only [Act.put, List.setIfInBounds_toArray, List.set_cons_succ, List.set_cons_zero]
        refine Lim.stepR 25 hF rfl (by kernel_rfl) (fun _ _ _ _ h => h) hC2 rfl ?_; apply Exists.intro; refine ⟨?_, ?_⟩
        · rintro w ⟨r1, r2, r3, r4⟩; go_simp; try with_reducible rfl
        simp only [Act.put, List.setIfInBounds_toArray, List.set_cons_succ, List.set_cons_zero]
        refine Lim.stepR 26 hF rfl (by kernel_rfl) (fun _ _ _ _ h => h) hC2 rfl ?_; apply Exists.intro; refine ⟨?_, ?_⟩
        · rintro w ⟨r1, r2, r3, r4⟩; go_simp; try with_reducible rfl
        simp only [Act.put, List.setIfInBounds_toArray, List.set_cons_succ, List.set_cons_zero]
        exact hm1 _ _ ⟨rfl, (by simpa [nB, hg] using hJ2), hC2⟩
      · refine hK _ _ ?_
        simp only [Act.put, List.setIfInBounds_toArray, List.set_cons_succ, List.set_cons_zero]
        refine Lim.segC (fun _ => True) [] ?_
        refine Lim.stepR 23 hF rfl (by kernel_rfl) (fun _ _ _ _ h => h) trivial rfl ?_; apply Exists.intro; refine ⟨?_, ?_⟩
        · rintro w _; go_simp; try with_reducible rfl
        simp only [Act.put, List.setIfInBounds_toArray, List.set_cons_succ, List.set_cons_zero]
        refine Lim.stepR 24 hF rfl (by kernel_rfl) (fun _ _ _ _ h => h) trivial rfl ?_; apply Exists.intro; refine ⟨?_, ?_⟩
        · rintro w _; go_simp; try with_reducible rfl
        simp only [Act.put, List.setIfInBounds_toArray, List.set_cons_succ, List.set_cons_zero]
        refine Lim.stepR 25 hF rfl (by kernel_rfl) (fun _ _ _ _ h => h) trivial rfl ?_; apply Exists.intro; refine ⟨?_, ?_⟩
        · rintro w _; go_simp; try with_reducible rfl
        simp only [Act.put, List.setIfInBounds_toArray, List.set_cons_succ, List.set_cons_zero]
        refine Lim.stepR 26 hF rfl (by kernel_rfl) (fun _ _ _ _ h => h) trivial rfl ?_; apply Exists.intro; refine ⟨?_, ?_⟩
        · rintro w _; go_simp; try with_reducible rfl
        simp only [Act.put, List.setIfInBounds_toArray, List.set_cons_succ, List.set_cons_zero]
        refine Lim.stepS 27 hF rfl (by kernel_rfl) (fun _ _ _ _ h => h) trivial rfl ?_
        simp only [Act.put, List.setIfInBounds_toArray, List.set_cons_succ, List.set_cons_zero]
        refine Lim.stepS 28 hF rfl (by kernel_rfl) (fun _ _ _ _ h => h) trivial rfl ?_
        simp only [Act.put, List.setIfInBounds_toArray, List.set_cons_succ, List.set_cons_zero]
        refine Lim.stepS 29 hF rfl (by kernel_rfl) (fun _ _ _ _ h => h) trivial rfl ?_
        simp only [Act.put, List.setIfInBounds_toArray, List.set_cons_succ, List.set_cons_zero]
        refine Lim.stepS 30 hF rfl (by kernel_rfl) (fun _ _ _ _ h => h) trivial rfl ?_
        simp only [Act.put, List.setIfInBounds_toArray, List.set_cons_succ, List.set_cons_zero]
        refine Lim.stepS 31 hF rfl (by kernel_rfl) (fun _ _ _ _ h => h) trivial rfl ?_
        simp only [Act.put, List.setIfInBounds_toArray, List.set_cons_succ, List.set_cons_zero]
        refine Lim.stepS 32 hF rfl (by kernel_rfl) (fun _ _ _ _ h => h) trivial rfl ?_
        simp only [Act.put, List.setIfInBounds_toArray, List.set_cons_succ, List.set_cons_zero]
        refine Lim.stepS 33 hF rfl (by kernel_rfl) (fun _ _ _ _ h => h) trivial rfl ?_
        simp only [Act.put, List.setIfInBounds_toArray, List.set_cons_succ, List.set_cons_zero]
        refine Lim.stepS 34 hF rfl (by kernel_rfl) (fun _ _ _ _ h => h) trivial rfl ?_
        simp only [Act.put, List.setIfInBounds_toArray, List.set_cons_succ, List.set_cons_zero]
        refine Lim.stepS 35 hF rfl (by kernel_rfl) (fun _ _ _ _ h => h) trivial rfl ?_
        simp only [Act.put, List.setIfInBounds_toArray, List.set_cons_succ, List.set_cons_zero]
        refine Lim.stepS 36 hF rfl (by kernel_rfl) (fun _ _ _ _ h => h) trivial rfl ?_
        simp only [Act.put, List.setIfInBounds_toArray, List.set_cons_succ, List.set_cons_zero]
        refine Lim.stepS 37 hF rfl (by kernel_rfl) (fun _ _ _ _ h => h) trivial rfl ?_
        simp only [Act.put, List.setIfInBounds_toArray, List.set_cons_succ, List.set_cons_zero]
        refine Lim.stepS 38 hF rfl (by kernel_rfl) (fun _ _ _ _ h => h) trivial rfl ?_
        simp only [Act.put, List.setIfInBounds_toArray, List.set_cons_succ, List.set_cons_zero]
        refine Lim.stepS 39 hF rfl (by kernel_rfl) (fun _ _ _ _ h => h) trivial rfl ?_
        simp only [Act.put, List.setIfInBounds_toArray, List.set_cons_succ, List.set_cons_zero]
        refine Lim.stepS 40 hF rfl (by kernel_rfl) (fun _ _ _ _ h => h) trivial rfl ?_
        simp only [Act.put, List.setIfInBounds_toArray, List.set_cons_succ, List.set_cons_zero]
        refine Lim.stepS 41 hF rfl (by kernel_rfl) (fun _ _ _ _ h => h) trivial rfl ?_
        simp only [Act.put, List.setIfInBounds_toArray, List.set_cons_succ, List.set_cons_zero]
        refine Lim.stepS 42 hF rfl (by kernel_rfl) (fun _ _ _ _ h => h) trivial rfl ?_
        simp only [Act.put, List.setIfInBounds_toArray, List.set_cons_succ, List.set_cons_zero]
        refine Lim.stepS 43 hF rfl (by kernel_rfl) (fun _ _ _ _ h => h) trivial rfl ?_
        simp only [Act.put, List.setIfInBounds_toArray, List.set_cons_succ, List.set_cons_zero]
        refine Lim.stepS 44 hF rfl (by kernel_rfl) (fun _ _ _ _ h => h) trivial rfl ?_
        simp only [Act.put, List.setIfInBounds_toArray, List.set_cons_succ, List.set_cons_zero]
        refine Lim.stepS 45 hF rfl (by kernel_rfl) (fun _ _ _ _ h => h) trivial rfl ?_
        simp only [Act.put, List.setIfInBounds_toArray, List.set_cons_succ, List.set_cons_zero]
        refine Lim.stepR 46 hF rfl (by kernel_rfl) (fun _ _ _ _ h => h) trivial rfl ?_; apply Exists.intro; refine ⟨?_, ?_⟩
        · rintro w _; go_simp; try with_reducible rfl
        simp only [Act.put, List.setIfInBounds_toArray, List.set_cons_succ, List.set_cons_zero]
        refine Lim.stepD (by kernel_rfl) ?_
        refine hK2 _ _ ?_
        refine wpIn_cond_true rfl ?_
        refine wpIn_ret ?_
        simp only [Exit.then]
        refine bodyPost_ret (results_none rfl _ _ _) rfl ?_
        exact ⟨⟨_, rfl⟩, .inr ⟨_, pfx1 hg, hJx2⟩⟩
    · have hgd : decide ((col : Int) + 1 < (wd : Int)) = false := by simp; omega
      refine Lim.stepR 10 hF rfl (by kernel_rfl) (fun _ _ _ _ h => h) hC1 rfl ?_; apply Exists.intro; refine ⟨?_, ?_⟩
      · rintro w ⟨r1, r2, r3, r4⟩; go_simp; try with_reducible rfl
      simp only [Act.put, List.setIfInBounds_toArray, List.set_cons_succ, List.set_cons_zero]
      refine Lim.stepR 11 hF rfl (by kernel_rfl) (fun _ _ _ _ h => h) hC1 rfl ?_; apply Exists.intro; refine ⟨?_, ?_⟩
      · rintro w ⟨r1, r2, r3, r4⟩; go_simp; try with_reducible rfl
      simp only [Act.put, List.setIfInBounds_toArray, List.set_cons_succ, List.set_cons_zero]
      refine Lim.stepR 12 hF rfl (by kernel_rfl) (fun _ _ _ _ h => h) hC1 rfl ?_; apply Exists.intro; refine ⟨?_, ?_⟩
      · rintro w ⟨r1, r2, r3, r4⟩; go_simp; try with_reducible rfl
      simp only [Act.put, List.setIfInBounds_toArray, List.set_cons_succ, List.set_cons_zero]
      refine Lim.stepR 13 hF rfl (by kernel_rfl) (fun _ _ _ _ h => h) hC1 rfl ?_; apply Exists.intro; refine ⟨?_, ?_⟩
      · rintro w ⟨r1, r2, r3, r4⟩; go_simp; try with_reducible rfl
      simp only [Act.put, List.setIfInBounds_toArray, List.set_cons_succ, List.set_cons_zero]
      refine Lim.stepR 14 hF rfl (by kernel_rfl) (fun _ _ _ _ h => h) hC1 rfl ?_; apply Exists.intro; refine ⟨?_, ?_⟩
      · rintro w ⟨r1, r2, r3, r4⟩; go_simp; try with_reducible rfl
      simp only [Act.put, List.setIfInBounds_toArray, List.set_cons_succ, List.set_cons_zero]
      refine Lim.stepR 15 hF rfl (by kernel_rfl) (fun _ _ _ _ h => h) hC1 rfl ?_; apply Exists.intro; refine ⟨?_, ?_⟩
      · rintro w ⟨r1, r2, r3, r4⟩; go_simp; try with_reducible rfl
      simp only [Act.put, List.setIfInBounds_toArray, List.set_cons_succ, List.set_cons_zero]
      refine Lim.stepR 16 hF rfl (by kernel_rfl) (fun _ _ _ _ h => h) hC1 rfl ?_; apply Exists.intro; refine ⟨?_, ?_⟩
      · rintro w ⟨r1, r2, r3, r4⟩; go_simp; try with_reducible rfl
      simp only [Act.put, List.setIfInBounds_toArray, List.set_cons_succ, List.set_cons_zero]
      refine Lim.stepR 17 hF rfl (by kernel_rfl) (fun _ _ _ _ h => h) hC1 rfl ?_; apply Exists.intro; refine ⟨?_, ?_⟩
      · rintro w ⟨r1, r2, r3, r4⟩; go_simp; try with_reducible rfl
      simp only [Act.put, List.setIfInBounds_toArray, List.set_cons_succ, List.set_cons_zero]
      refine Lim.stepR 18 hF rfl (by kernel_rfl) (fun _ _ _ _ h => h) hC1 rfl ?_; apply Exists.intro; refine ⟨?_, ?_⟩
      · rintro w ⟨r1, r2, r3, r4⟩; go_simp; try with_reducible rfl
      simp only [Act.put, List.setIfInBounds_toArray, List.set_cons_succ, List.set_cons_zero]
      refine Lim.stepS 19 hF rfl (by kernel_rfl) (fun _ _ _ _ h => h) hC1 rfl ?_
      simp only [Act.put, List.setIfInBounds_toArray, List.set_cons_succ, List.set_cons_zero]
      refine Lim.stepS 20 hF rfl (by kernel_rfl) (fun _ _ _ _ h => h) hC1 rfl ?_
      simp only [Act.put, List.setIfInBounds_toArray, List.set_cons_succ, List.set_cons_zero]
      refine Lim.stepS 21 hF rfl (by kernel_rfl) (fun _ _ _ _ h => h) hC1 rfl ?_
      simp only [Act.put, List.setIfInBounds_toArray, List.set_cons_succ, List.set_cons_zero]
      refine Lim.stepS 22 hF rfl (by kernel_rfl) (fun _ _ _ _ h => h) hC1 rfl ?_
      simp only [Act.put, List.setIfInBounds_toArray, List.set_cons_succ, List.set_cons_zero]
      refine Lim.stepS 23 hF rfl (by kernel_rfl) (fun _ _ _ _ h => h) hC1 rfl ?_
      simp only [Act.put, List.setIfInBounds_toArray, List.set_cons_succ, List.set_cons_zero]
      refine Lim.stepR 24 hF rfl (by kernel_rfl) (fun _ _ _ _ h => h) hC1 rfl ?_; apply Exists.intro; refine ⟨?_, ?_⟩
      · rintro w ⟨r1, r2, r3, r4⟩; go_simp; try with_reducible rfl
      simp only [Act.put, List.setIfInBounds_toArray, List.set_cons_succ, List.set_cons_zero]
      refine Lim.stepR 25 hF rfl (by kernel_rfl) (fun _ _ _ _ h => h) hC1 rfl ?_; apply Exists.intro; refine ⟨?_, ?_⟩
      · rintro w ⟨r1, r2, r3, r4⟩; go_simp; try with_reducible rfl
      simp only [Act.put, List.setIfInBounds_toArray, List.set_cons_succ, List.set_cons_zero]
      refine Lim.stepR 26 hF rfl (by kernel_rfl) (fun _ _ _ _ h => h) hC1 rfl ?_; apply Exists.intro; refine ⟨?_, ?_⟩
      · rintro w ⟨r1, r2, r3, r4⟩; go_simp; try with_reducible rfl
      simp only [Act.put, List.setIfInBounds_toArray, List.set_cons_succ, List.set_cons_zero]
      exact hm1 _ _ ⟨rfl, (by simpa [nB, hg] using hJ1), hC1⟩
  have hJ1 := hJd _ _ (hJd _ _ h0)
  have hC1 : (Cn bw bc b wd N cap c ha) W.drew.drew := hC0
  by_cases hg : 0 < col
  · have hx : IntKind.i64.wrap ((c : Int) - 1) = (c : Int) - 1 := IntWalk.i64_in _ (by omega)
    have hgd : decide ((0 : Int) < (col : Int)) = true := by simp; omega
    refine Lim.stepR 0 hF rfl (by kernel_rfl) (fun _ _ _ _ h => h) hC1 rfl ?_; apply Exists.intro; refine ⟨?_, ?_⟩
    · rintro w ⟨r1, r2, r3, r4⟩; go_simp; try with_reducible rfl
    simp only [Act.put, List.setIfInBounds_toArray, List.set_cons_succ, List.set_cons_zero]
    refine Lim.stepR 1 hF rfl (by kernel_rfl) (fun _ _ _ _ h => h) hC1 rfl ?_; apply Exists.intro; refine ⟨?_, ?_⟩
    · rintro w ⟨r1, r2, r3, r4⟩; go_simp; try with_reducible rfl
    simp only [Act.put, List.setIfInBounds_toArray, List.set_cons_succ, List.set_cons_zero]
    refine Lim.stepR 2 hF rfl (by kernel_rfl) (fun _ _ _ _ h => h) hC1 rfl ?_; apply Exists.intro; refine ⟨?_, ?_⟩
    · rintro w ⟨r1, r2, r3, r4⟩; go_simp; try with_reducible rfl
    simp only [Act.put, List.setIfInBounds_toArray, List.set_cons_succ, List.set_cons_zero]
    refine Lim.stepR 3 hF rfl (by kernel_rfl) (fun _ _ _ _ h => h) hC1 rfl ?_; apply Exists.intro; refine ⟨?_, ?_⟩
    · rintro w ⟨r1, r2, r3, r4⟩; go_simp; try with_reducible rfl
    simp only [Act.put, List.setIfInBounds_toArray, List.set_cons_succ, List.set_cons_zero]
    refine Lim.stepR 4 hF rfl (by kernel_rfl) (fun _ _ _ _ h => h) hC1 rfl ?_; apply Exists.intro; refine ⟨?_, ?_⟩
    · rintro w ⟨r1, r2, r3, r4⟩; go_simp; try with_reducible rfl
    simp only [Act.put, List.setIfInBounds_toArray, List.set_cons_succ, List.set_cons_zero]
    refine Lim.stepR 5 hF rfl (by kernel_rfl) (fun _ _ _ _ h => h) hC1 rfl ?_; apply Exists.intro; refine ⟨?_, ?_⟩
    · rintro w ⟨r1, r2, r3, r4⟩; go_simp; try with_reducible rfl
    simp only [Act.put, List.setIfInBounds_toArray, List.set_cons_succ, List.set_cons_zero]
    refine Lim.stepX 6 hF rfl (by kernel_rfl) rfl rfl (fun K hK => ?_)
    go_simp
    obtain ⟨fn, tmps, assign, body, hy, hR⟩ := hY [] ((c : Int) - 1) W.drew.drew hJ1 (pfx0 hg)
    rw [hy]
    simp only [Oper.uponIn]
    refine ⟨fun h => (by rw [hd] at h; cases h), hR.mono ?_⟩
    rintro e W2 (⟨rfl, hJ2, hb2⟩ | ⟨rfl, hJx2⟩)
    · refine hK _ _ ?_
      have hC2 : (Cn bw bc b wd N cap c ha) W2 := hb2 hC1
      simp only [Act.put, List.setIfInBounds_toArray, List.set_cons_succ, List.set_cons_zero]
      refine Lim.segC (Cn bw bc b wd N cap c ha) [6, 22, 43] ?_
      refine Lim.stepR 7 hF rfl (by kernel_rfl) (fun _ _ _ _ h => h) hC2 rfl ?_; apply Exists.intro; refine ⟨?_, ?_⟩
      · rintro w ⟨r1, r2, r3, r4⟩; go_simp; try with_reducible rfl
      simp only [Act.put, List.setIfInBounds_toArray, List.set_cons_succ, List.set_cons_zero]
      refine Lim.stepR 8 hF rfl (by kernel_rfl) (fun _ _ _ _ h => h) hC2 rfl ?_; apply Exists.intro; refine ⟨?_, ?_⟩
      · rintro w ⟨r1, r2, r3, r4⟩; go_simp; try with_reducible rfl
      simp only [Act.put, List.setIfInBounds_toArray, List.set_cons_succ, List.set_cons_zero]
      refine Lim.stepR 9 hF rfl (by kernel_rfl) (fun _ _ _ _ h => h) hC2 rfl ?_; apply Exists.intro; refine ⟨?_, ?_⟩
      · rintro w ⟨r1, r2, r3, r4⟩; go_simp; try with_reducible rfl
      simp only [Act.put, List.setIfInBounds_toArray, List.set_cons_succ, List.set_cons_zero]
      exact hm0 _ _ ⟨rfl, (by simpa [nA, hg] using hJ2), hC2⟩
    · refine hK _ _ ?_
      simp only [Act.put, List.setIfInBounds_toArray, List.set_cons_succ, List.set_cons_zero]
      refine Lim.segC (fun _ => True) [] ?_
      refine Lim.stepR 7 hF rfl (by kernel_rfl) (fun _ _ _ _ h => h) trivial rfl ?_; apply Exists.intro; refine ⟨?_, ?_⟩
      · rintro w _; go_simp; try with_reducible rfl
      simp only [Act.put, List.setIfInBounds_toArray, List.set_cons_succ, List.set_cons_zero]
      refine Lim.stepR 8 hF rfl (by kernel_rfl) (fun _ _ _ _ h => h) trivial rfl ?_; apply Exists.intro; refine ⟨?_, ?_⟩
      · rintro w _; go_simp; try with_reducible rfl
      simp only [Act.put, List.setIfInBounds_toArray, List.set_cons_succ, List.set_cons_zero]
      refine Lim.stepR 9 hF rfl (by kernel_rfl) (fun _ _ _ _ h => h) trivial rfl ?_; apply Exists.intro; refine ⟨?_, ?_⟩
      · rintro w _; go_simp; try with_reducible rfl
      simp only [Act.put, List.setIfInBounds_toArray, List.set_cons_succ, List.set_cons_zero]
      refine Lim.stepS 10 hF rfl (by kernel_rfl) (fun _ _ _ _ h => h) trivial rfl ?_
      simp only [Act.put, List.setIfInBounds_toArray, List.set_cons_succ, List.set_cons_zero]
      refine Lim.stepS 11 hF rfl (by kernel_rfl) (fun _ _ _ _ h => h) trivial rfl ?_
      simp only [Act.put, List.setIfInBounds_toArray, List.set_cons_succ, List.set_cons_zero]
      refine Lim.stepS 12 hF rfl (by kernel_rfl) (fun _ _ _ _ h => h) trivial rfl ?_
      simp only [Act.put, List.setIfInBounds_toArray, List.set_cons_succ, List.set_cons_zero]
      refine Lim.stepS 13 hF rfl (by kernel_rfl) (fun _ _ _ _ h => h) trivial rfl ?_
      simp only [Act.put, List.setIfInBounds_toArray, List.set_cons_succ, List.set_cons_zero]
      refine Lim.stepS 14 hF rfl (by kernel_rfl) (fun _ _ _ _ h => h) trivial rfl ?_
      simp only [Act.put, List.setIfInBounds_toArray, List.set_cons_succ, List.set_cons_zero]
      refine Lim.stepS 15 hF rfl (by kernel_rfl) (fun _ _ _ _ h => h) trivial rfl ?_
      simp only [Act.put, List.setIfInBounds_toArray, List.set_cons_succ, List.set_cons_zero]
      refine Lim.stepS 16 hF rfl (by kernel_rfl) (fun _ _ _ _ h => h) trivial rfl ?_
      simp only [Act.put, List.setIfInBounds_toArray, List.set_cons_succ, List.set_cons_zero]
      refine Lim.stepS 17 hF rfl (by kernel_rfl) (fun _ _ _ _ h => h) trivial rfl ?_
      simp only [Act.put, List.setIfInBounds_toArray, List.set_cons_succ, List.set_cons_zero]
      refine Lim.stepS 18 hF rfl (by kernel_rfl) (fun _ _ _ _ h => h) trivial rfl ?_
      simp only [Act.put, List.setIfInBounds_toArray, List.set_cons_succ, List.set_cons_zero]
      refine Lim.stepS 19 hF rfl (by kernel_rfl) (fun _ _ _ _ h => h) trivial rfl ?_
      simp only [Act.put, List.setIfInBounds_toArray, List.set_cons_succ, List.set_cons_zero]
      refine Lim.stepS 20 hF rfl (by kernel_rfl) (fun _ _ _ _ h => h) trivial rfl ?_
      simp only [Act.put, List.setIfInBounds_toArray, List.set_cons_succ, List.set_cons_zero]
      refine Lim.stepS 21 hF rfl (by kernel_rfl) (fun _ _ _ _ h => h) trivial rfl ?_
      simp only [Act.put, List.setIfInBounds_toArray, List.set_cons_succ, List.set_cons_zero]
      refine Lim.stepS 22 hF rfl (by kernel_rfl) (fun _ _ _ _ h => h) trivial rfl ?_
      simp only [Act.put, List.setIfInBounds_toArray, List.set_cons_succ, List.set_cons_zero]
      refine Lim.stepS 23 hF rfl (by kernel_rfl) (fun _ _ _ _ h => h) trivial rfl ?_
      simp only [Act.put, List.setIfInBounds_toArray, List.set_cons_succ, List.set_cons_zero]
      refine Lim.stepS 24 hF rfl (by kernel_rfl) (fun _ _ _ _ h => h) trivial rfl ?_
      simp only [Act.put, List.setIfInBounds_toArray, List.set_cons_succ, List.set_cons_zero]
      refine Lim.stepR 25 hF rfl (by kernel_rfl) (fun _ _ _ _ h => h) trivial rfl ?_; apply Exists.intro; refine ⟨?_, ?_⟩
      · rintro w _; go_simp; try with_reducible rfl
      simp only [Act.put, List.setIfInBounds_toArray, List.set_cons_succ, List.set_cons_zero]
      refine Lim.stepR 26 hF rfl (by kernel_rfl) (fun _ _ _ _ h => h) trivial rfl ?_; apply Exists.intro; refine ⟨?_, ?_⟩
      · rintro w _; go_simp; try with_reducible rfl
      simp only [Act.put, List.setIfInBounds_toArray, List.set_cons_succ, List.set_cons_zero]
      refine Lim.stepS 27 hF rfl (by kernel_rfl) (fun _ _ _ _ h => h) trivial rfl ?_
      simp only [Act.put, List.setIfInBounds_toArray, List.set_cons_succ, List.set_cons_zero]
      refine Lim.stepS 28 hF rfl (by kernel_rfl) (fun _ _ _ _ h => h) trivial rfl ?_
      simp only [Act.put, List.setIfInBounds_toArray, List.set_cons_succ, List.set_cons_zero]
      refine Lim.stepS 29 hF rfl (by kernel_rfl) (fun _ _ _ _ h => h) trivial rfl ?_
      simp only [Act.put, List.setIfInBounds_toArray, List.set_cons_succ, List.set_cons_zero]
      refine Lim.stepS 30 hF rfl (by kernel_rfl) (fun _ _ _ _ h => h) trivial rfl ?_
      simp only [Act.put, List.setIfInBounds_toArray, List.set_cons_succ, List.set_cons_zero]
      refine Lim.stepS 31 hF rfl (by kernel_rfl) (fun _ _ _ _ h => h) trivial rfl ?_
      simp only [Act.put, List.setIfInBounds_toArray, List.set_cons_succ, List.set_cons_zero]
      refine Lim.stepS 32 hF rfl (by kernel_rfl) (fun _ _ _ _ h => h) trivial rfl ?_
      simp only [Act.put, List.setIfInBounds_toArray, List.set_cons_succ, List.set_cons_zero]
      refine Lim.stepS 33 hF rfl (by kernel_rfl) (fun _ _ _ _ h => h) trivial rfl ?_
      simp only [Act.put, List.setIfInBounds_toArray, List.set_cons_succ, List.set_cons_zero]
      refine Lim.stepS 34 hF rfl (by kernel_rfl) (fun _ _ _ _ h => h) trivial rfl ?_
      simp only [Act.put, List.setIfInBounds_toArray, List.set_cons_succ, List.set_cons_zero]
      refine Lim.stepS 35 hF rfl (by kernel_rfl) (fun _ _ _ _ h => h) trivial rfl ?_
      simp only [Act.put, List.setIfInBounds_toArray, List.set_cons_succ, List.set_cons_zero]
      refine Lim.stepS 36 hF rfl (by kernel_rfl) (fun _ _ _ _ h => h) trivial rfl ?_
      simp only [Act.put, List.setIfInBounds_toArray, List.set_cons_succ, List.set_cons_zero]
      refine Lim.stepS 37 hF rfl (by kernel_rfl) (fun _ _ _ _ h => h) trivial rfl ?_
      simp only [Act.put, List.setIfInBounds_toArray, List.set_cons_succ, List.set_cons_zero]
      refine Lim.stepS 38 hF rfl (by kernel_rfl) (fun _ _ _ _ h => h) trivial rfl ?_
      simp only [Act.put, List.setIfInBounds_toArray, List.set_cons_succ, List.set_cons_zero]
      refine Lim.stepS 39 hF rfl (by kernel_rfl) (fun _ _ _ _ h => h) trivial rfl ?_
      simp only [Act.put, List.setIfInBounds_toArray, List.set_cons_succ, List.set_cons_zero]
      refine Lim.stepS 40 hF rfl (by kernel_rfl) (fun _ _ _ _ h => h) trivial rfl ?_
      simp only [Act.put, List.setIfInBounds_toArray, List.set_cons_succ, List.set_cons_zero]
      refine Lim.stepS 41 hF rfl (by kernel_rfl) (fun _ _ _ _ h => h) trivial rfl ?_
      simp only [Act.put, List.setIfInBounds_toArray, List.set_cons_succ, List.set_cons_zero]
      refine Lim.stepS 42 hF rfl (by kernel_rfl) (fun _ _ _ _ h => h) trivial rfl ?_
      simp only [Act.put, List.setIfInBounds_toArray, List.set_cons_succ, List.set_cons_zero]
      refine Lim.stepS 43 hF rfl (by kernel_rfl) (fun _ _ _ _ h => h) trivial rfl ?_
      simp only [Act.put, List.setIfInBounds_toArray, List.set_cons_succ, List.set_cons_zero]
      refine Lim.stepS 44 hF rfl (by kernel_rfl) (fun _ _ _ _ h => h) trivial rfl ?_
      simp only [Act.put, List.setIfInBounds_toArray, List.set_cons_succ, List.set_cons_zero]
      refine Lim.stepS 45 hF rfl (by kernel_rfl) (fun _ _ _ _ h => h) trivial rfl ?_
      simp only [Act.put, List.setIfInBounds_toArray, List.set_cons_succ, List.set_cons_zero]
      refine Lim.stepR 46 hF rfl (by kernel_rfl) (fun _ _ _ _ h => h) trivial rfl ?_; apply Exists.intro; refine ⟨?_, ?_⟩
      · rintro w _; go_simp; try with_reducible rfl
      simp only [Act.put, List.setIfInBounds_toArray, List.set_cons_succ, List.set_cons_zero]
      refine Lim.stepD (by kernel_rfl) ?_
      refine hK2 _ _ ?_
      refine wpIn_cond_true rfl ?_
      refine wpIn_ret ?_
      simp only [Exit.then]
      refine bodyPost_ret (results_none rfl _ _ _) rfl ?_
      exact ⟨⟨_, rfl⟩, .inr ⟨_, pfx0 hg, hJx2⟩⟩
  · have hgd : decide ((0 : Int) < (col : Int)) = false := by simp; omega
    refine Lim.stepR 0 hF rfl (by kernel_rfl) (fun _ _ _ _ h => h) hC1 rfl ?_; apply Exists.intro; refine ⟨?_, ?_⟩
    · rintro w ⟨r1, r2, r3, r4⟩; go_simp; try with_reducible rfl
    simp only [Act.put, List.setIfInBounds_toArray, List.set_cons_succ, List.set_cons_zero]
    refine Lim.stepR 1 hF rfl (by kernel_rfl) (fun _ _ _ _ h => h) hC1 rfl ?_; apply Exists.intro; refine ⟨?_, ?_⟩
    · rintro w ⟨r1, r2, r3, r4⟩; go_simp; try with_reducible rfl
    simp only [Act.put, List.setIfInBounds_toArray, List.set_cons_succ, List.set_cons_zero]
    refine Lim.stepR 2 hF rfl (by kernel_rfl) (fun _ _ _ _ h => h) hC1 rfl ?_; apply Exists.intro; refine ⟨?_, ?_⟩
    · rintro w ⟨r1, r2, r3, r4⟩; go_simp; try with_reducible rfl
    simp only [Act.put, List.setIfInBounds_toArray, List.set_cons_succ, List.set_cons_zero]
    refine Lim.stepS 3 hF rfl (by kernel_rfl) (fun _ _ _ _ h => h) hC1 rfl ?_
    simp only [Act.put, List.setIfInBounds_toArray, List.set_cons_succ, List.set_cons_zero]
    refine Lim.stepS 4 hF rfl (by kernel_rfl) (fun _ _ _ _ h => h) hC1 rfl ?_
    simp only [Act.put, List.setIfInBounds_toArray, List.set_cons_succ, List.set_cons_zero]
    refine Lim.stepS 5 hF rfl (by kernel_rfl) (fun _ _ _ _ h => h) hC1 rfl ?_
    simp only [Act.put, List.setIfInBounds_toArray, List.set_cons_succ, List.set_cons_zero]
    refine Lim.stepS 6 hF rfl (by kernel_rfl) (fun _ _ _ _ h => h) hC1 rfl ?_
    simp only [Act.put, List.setIfInBounds_toArray, List.set_cons_succ, List.set_cons_zero]
    refine Lim.stepS 7 hF rfl (by kernel_rfl) (fun _ _ _ _ h => h) hC1 rfl ?_
    simp only [Act.put, List.setIfInBounds_toArray, List.set_cons_succ, List.set_cons_zero]
    refine Lim.stepR 8 hF rfl (by kernel_rfl) (fun _ _ _ _ h => h) hC1 rfl ?_; apply Exists.intro; refine ⟨?_, ?_⟩
    · rintro w ⟨r1, r2, r3, r4⟩; go_simp; try with_reducible rfl
    simp only [Act.put, List.setIfInBounds_toArray, List.set_cons_succ, List.set_cons_zero]
    refine Lim.stepR 9 hF rfl (by kernel_rfl) (fun _ _ _ _ h => h) hC1 rfl ?_; apply Exists.intro; refine ⟨?_, ?_⟩
    · rintro w ⟨r1, r2, r3, r4⟩; go_simp; try with_reducible rfl
    simp only [Act.put, List.setIfInBounds_toArray, List.set_cons_succ, List.set_cons_zero]
    exact hm0 _ _ ⟨rfl, (by simpa [nA, hg] using hJ1), hC1⟩

theorem nbr1_in (F : Fence) (n : Nat) (hF : ∀ f, F.fn f) (hd : F.depth = none) (hro : F.round = none) (l bw bc b wd N c cap : Nat) (ha : Option Addr) (J Jx : List Int → World → Prop)
    (hY : ∀ pre x W, J pre W → pre ++ [x] <+: nbrL wd N c → YieldAt F (n - 1) Try.prog l #[.int .i64 x] W fun e W' =>
      (e = .returned (.bool true) ∧ J (pre ++ [x]) W' ∧ (Cn bw bc b wd N cap c ha W → Cn bw bc b wd N cap c ha W')) ∨ (e = .returned (.bool false) ∧ Jx (pre ++ [x]) W'))
    (hJd : ∀ pre W, J pre W → J pre W.drew)
    (W : World) (hw0 : 0 < wd) (hwd : wd ≤ 100) (hN : N ≤ 100) (hc : c < 100) (hC0 : Cn bw bc b wd N cap c ha W) (h0 : J [] W) :
    CallsIn F n Try.prog 98 #[.func (.yield l) #[] #[], .pointer (some ⟨bw, 0, none⟩), .pointer (some ⟨bc, 0, none⟩)] W fun e W' => (∃ v, e = .returned v) ∧
      ((∃ ys, ys = nbrL wd N c ∧ J ys W') ∨ (∃ pre, pre <+: nbrL wd N c ∧ Jx pre W')) :=
  nbr1_col F n hF hd hro l bw bc b wd N c (c % wd) cap (Lib.hid rfl) ha J Jx hY hJd W hw0 hwd hN hc hC0 h0

end Go.Proofs.Ytohjinbgbfggcaa.Rg
