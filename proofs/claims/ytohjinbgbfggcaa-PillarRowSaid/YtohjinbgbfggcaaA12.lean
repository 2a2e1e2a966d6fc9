/-
  Parts of the proof, in the order in which they build: QiD, QiE.
-/
import Derived.RangeFuncNested
import Derived.RangeFuncBound
import Derived.RangeFuncCalls
import Derived.RangeFuncLeaves
import Derived.Shelf.Abstract
import Derived.WalkKit
import Derived.IntWalk
import Derived.Lib.Hide
import Derived.OwnWalkIn
import Derived.TacticsInMore
import Derived.LoopNIn
import Derived.LoopIn
import Derived.WalkSpells
import Derived.WalkLawsBesides
import Derived.Test.YtohjinbgbfggcaaA11
import Derived.Test.YtohjinbgbfggcaaA1
set_option linter.unusedVariables false
set_option linter.unusedSimpArgs false
/-
  The iterator over the places behind one that surely see it, in whatever loop over it.
-/
namespace Go.Proofs.Ytohjinbgbfggcaa
open Go.RowKit Go.Shelf
open Lim
attribute [local go_sem] Oper.semAt_some

/-- the first m places behind i, those that see it -/
def aheadTo (row : Nat → Bool) (i : Nat) : Nat → List Int
  | 0 => []
  | m + 1 => aheadTo row i m ++ (if row (i + 1 + m) = true then [((i + 1 + m : Nat) : Int)] else [])
def aheadL (row : Nat → Bool) (n i : Nat) : List Int := aheadTo row i (n - 1 - i)
theorem aheadTo_pre (row : Nat → Bool) (i : Nat) {m m' : Nat} (h : m ≤ m') : aheadTo row i m <+: aheadTo row i m' := by
  induction m' with
  | zero => rw [Nat.le_zero.1 h]; exact List.prefix_rfl
  | succ k ih =>
    by_cases e : m = k + 1
    · rw [e]; exact List.prefix_rfl
    · exact (ih (by omega)).trans (List.prefix_append _ _)
/-- the cells that the iterator reads -/
def Ca (q2 q3 b n i : Nat) (row : Nat → Bool) (a : Option Addr) (ac : Nat) (w : World) : Prop :=
  w.cell? ⟨q3, 0, none⟩ = some (.int .i64 i) ∧ w.cell? ⟨q2, 0, none⟩ = some (.pointer (some ⟨b, 0, none⟩)) ∧ w.cell? ⟨b, 0, none⟩ = some (.slice a n ac) ∧ ∀ j, j < 40 → w.cell? ⟨b, 5 + i * 40 + j, none⟩ = some (.bool (row j))
/-- .. in one round -/
def Ca2 (q2 q3 b i j : Nat) (v : Bool) (w : World) : Prop :=
  w.cell? ⟨q3, 0, none⟩ = some (.int .i64 i) ∧ w.cell? ⟨q2, 0, none⟩ = some (.pointer (some ⟨b, 0, none⟩)) ∧ w.cell? ⟨b, 5 + i * 40 + j, none⟩ = some (.bool v)
set_option maxRecDepth 100000 in
set_option maxHeartbeats 1000000 in
theorem ahead1_in (n' : Nat) (l q2 q3 b n i ac : Nat) (row : Nat → Bool) (a : Option Addr) (J Jx : List Int → World → Prop)
    (hY : ∀ pre x W, J pre W → pre ++ [x] <+: aheadL row n i → YieldAt Fence.wide (n' - 1) Try.prog l #[.int .i64 x] W fun e W' =>
      (e = .returned (.bool true) ∧ J (pre ++ [x]) W' ∧ (Ca q2 q3 b n i row a ac W → Ca q2 q3 b n i row a ac W')) ∨ (e = .returned (.bool false) ∧ Jx (pre ++ [x]) W'))
    (hJd : ∀ pre W, J pre W → J pre W.drew)
    (W : World) (hn : n ≤ 40) (hi : i < n) (hC0 : Ca q2 q3 b n i row a ac W) (h0 : J [] W) :
    CallsIn Fence.wide n' Try.prog 76 #[.func (.yield l) #[] #[], .pointer (some ⟨q3, 0, none⟩), .pointer (some ⟨q2, 0, none⟩)] W fun e W' => (∃ v, e = .returned v) ∧
      ((∃ ys, ys = aheadL row n i ∧ J ys W') ∨ (∃ pre, pre <+: aheadL row n i ∧ Jx pre W')) := by
  have HY := Lib.hid hY
  have HJ := Lib.hid hJd
  have HC := Lib.hid hC0
  have H0 := Lib.hid h0
  obtain ⟨r1, r2, r3, -⟩ := hC0
  have hi64 : i + 1 < 100 := by omega
  clear hY hJd h0
  refine callsIn_of_wp Try.func76 rfl trivial ?_ rfl
  simp only [Try.ntmps76, List.size_toArray, List.length_cons, List.length_nil, Nat.reduceAdd, Nat.reduceSub, Array.replicate_succ, Array.replicate_zero, List.push_toArray, List.append_toArray, List.nil_append, List.cons_append]
  gi_wp2
  gi_loopw [4] (fun kv wr => ∃ m j : Nat, j = i + 1 + m ∧ j ≤ n ∧ kv = .int .i64 j ∧ Hid (Ca q2 q3 b n i row a ac wr) ∧ Hid (J (aheadTo row i m) wr)) (fun kv _ => n - (intOf kv).toNat)
  case atStart => exact ⟨0, i + 1, rfl, by omega, by go_num, HC, H0⟩
  case round =>
    clear H0 HC r1 r2 r3
    obtain ⟨m, j, hj, hjn, rfl, hC, hJ⟩ := hrel
    obtain ⟨r1, r2, r3, r4⟩ := hC.out
    have hjj := Lib.hid hj
    by_cases hlt : j < n
    · have hj40 : (j : Int) < 40 := by omega
      have hi40 : (i : Int) < 40 := by omega
      obtain ⟨v, hv⟩ : ∃ v, v = row j := ⟨_, rfl⟩
      have c0 := r4 j (by omega)
      rw [← hv] at c0
      have HV := Lib.hid hv
      have hjd := Lib.hid (HJ.out _ _ hJ.out)
      have hCd : Hid (Ca q2 q3 b n i row a ac wr.drew) := hC
      clear hv r4 hj
      have hj64 : j + 1 < 100 := by omega
      gi_wp2_with fail
      have hC : (fun w => Ca2 q2 q3 b i j v w) wr.drew := ⟨r1, r2, c0⟩
      cases v with
      | true =>
        have HX : Hid (aheadTo row i (m + 1) = aheadTo row i m ++ [(j : Int)]) := Lib.hid (by rw [aheadTo, ← hjj.out, ← HV.out]; rfl)
        have HP : Hid (aheadTo row i m ++ [(j : Int)] <+: aheadL row n i) := Lib.hid (by rw [← HX.out]; exact aheadTo_pre row i (by have := hjj.out; omega))
        have hY := HY.out (aheadTo row i m) (j : Int) wr.drew hjd.out HP.out
        refine Lim.regC (fun w => Ca2 q2 q3 b i j true w) [11] #[false, false, false, false, false, false, false, false, false, false, false, false, false, false] (by kernel_rfl) rfl ?_
        refine Lim.stepR 0 (fun _ => trivial) rfl (by kernel_rfl) (fun _ _ _ _ h => h) hC rfl ?_; apply Exists.intro; refine ⟨?_, ?_⟩
        · rintro w ⟨r1, r2, r3⟩; go_simp; try with_reducible rfl
        simp only [Act.put, List.setIfInBounds_toArray, List.set_cons_succ, List.set_cons_zero]
        refine Lim.stepR 1 (fun _ => trivial) rfl (by kernel_rfl) (fun _ _ _ _ h => h) hC rfl ?_; apply Exists.intro; refine ⟨?_, ?_⟩
        · rintro w ⟨r1, r2, r3⟩; go_simp; try with_reducible rfl
        simp only [Act.put, List.setIfInBounds_toArray, List.set_cons_succ, List.set_cons_zero]
        refine Lim.stepR 2 (fun _ => trivial) rfl (by kernel_rfl) (fun _ _ _ _ h => h) hC rfl ?_; apply Exists.intro; refine ⟨?_, ?_⟩
        · rintro w ⟨r1, r2, r3⟩; go_simp; try with_reducible rfl
        simp only [Act.put, List.setIfInBounds_toArray, List.set_cons_succ, List.set_cons_zero]
        refine Lim.stepR 3 (fun _ => trivial) rfl (by kernel_rfl) (fun _ _ _ _ h => h) hC rfl ?_; apply Exists.intro; refine ⟨?_, ?_⟩
        · rintro w ⟨r1, r2, r3⟩; go_simp; try with_reducible rfl
        simp only [Act.put, List.setIfInBounds_toArray, List.set_cons_succ, List.set_cons_zero]
        refine Lim.stepR 4 (fun _ => trivial) rfl (by kernel_rfl) (fun _ _ _ _ h => h) hC rfl ?_; apply Exists.intro; refine ⟨?_, ?_⟩
        · rintro w ⟨r1, r2, r3⟩; go_simp; try with_reducible rfl
        simp only [Act.put, List.setIfInBounds_toArray, List.set_cons_succ, List.set_cons_zero]
        refine Lim.stepR 5 (fun _ => trivial) rfl (by kernel_rfl) (fun _ _ _ _ h => h) hC rfl ?_; apply Exists.intro; refine ⟨?_, ?_⟩
        · rintro w ⟨r1, r2, r3⟩; go_simp; try with_reducible rfl
        simp only [Act.put, List.setIfInBounds_toArray, List.set_cons_succ, List.set_cons_zero]
        refine Lim.stepR 6 (fun _ => trivial) rfl (by kernel_rfl) (fun _ _ _ _ h => h) hC rfl ?_; apply Exists.intro; refine ⟨?_, ?_⟩
        · rintro w ⟨r1, r2, r3⟩; go_simp; try with_reducible rfl
        simp only [Act.put, List.setIfInBounds_toArray, List.set_cons_succ, List.set_cons_zero]
        refine Lim.stepR 7 (fun _ => trivial) rfl (by kernel_rfl) (fun _ _ _ _ h => h) hC rfl ?_; apply Exists.intro; refine ⟨?_, ?_⟩
        · rintro w ⟨r1, r2, r3⟩; go_simp; try with_reducible rfl
        simp only [Act.put, List.setIfInBounds_toArray, List.set_cons_succ, List.set_cons_zero]
        refine Lim.stepR 8 (fun _ => trivial) rfl (by kernel_rfl) (fun _ _ _ _ h => h) hC rfl ?_; apply Exists.intro; refine ⟨?_, ?_⟩
        · rintro w ⟨r1, r2, r3⟩; go_simp; try with_reducible rfl
        simp only [Act.put, List.setIfInBounds_toArray, List.set_cons_succ, List.set_cons_zero]
        refine Lim.stepR 9 (fun _ => trivial) rfl (by kernel_rfl) (fun _ _ _ _ h => h) hC rfl ?_; apply Exists.intro; refine ⟨?_, ?_⟩
        · rintro w ⟨r1, r2, r3⟩; go_simp; try with_reducible rfl
        simp only [Act.put, List.setIfInBounds_toArray, List.set_cons_succ, List.set_cons_zero]
        refine Lim.stepR 10 (fun _ => trivial) rfl (by kernel_rfl) (fun _ _ _ _ h => h) hC rfl ?_; apply Exists.intro; refine ⟨?_, ?_⟩
        · rintro w ⟨r1, r2, r3⟩; go_simp; try with_reducible rfl
        simp only [Act.put, List.setIfInBounds_toArray, List.set_cons_succ, List.set_cons_zero]
        refine Lim.stepX 11 (fun _ => trivial) rfl (by kernel_rfl) rfl rfl (fun K hK => ?_)
        go_simp
        obtain ⟨fn, tmps, assign, body, hy, hR⟩ := hY
        rw [hy]
        simp only [Oper.uponIn]
        refine ⟨fun h => (by cases h), hR.mono ?_⟩
        rintro e W2 (⟨rfl, hJ2, hb2⟩ | ⟨rfl, hJx2⟩)
        · refine hK _ _ ?_
          have hCd2 := Lib.hid (hb2 hCd.out)
          have hJd2 := Lib.hid hJ2
          clear hb2 hJ2 hR hy
          simp only [Act.put, List.setIfInBounds_toArray, List.set_cons_succ, List.set_cons_zero]
          refine Lim.segC (fun _ => True) [] ?_
          refine Lim.stepR 12 (fun _ => trivial) rfl (by kernel_rfl) (fun _ _ _ _ h => h) trivial rfl ?_; apply Exists.intro; refine ⟨?_, ?_⟩
          · rintro w -; go_simp; try with_reducible rfl
          simp only [Act.put, List.setIfInBounds_toArray, List.set_cons_succ, List.set_cons_zero]
          refine Lim.stepR 13 (fun _ => trivial) rfl (by kernel_rfl) (fun _ _ _ _ h => h) trivial rfl ?_; apply Exists.intro; refine ⟨?_, ?_⟩
          · rintro w -; go_simp; try with_reducible rfl
          simp only [Act.put, List.setIfInBounds_toArray, List.set_cons_succ, List.set_cons_zero]
          refine Lim.stepD (by kernel_rfl) ?_
          gi_wp2
          go_roundw
          case rel => exact ⟨m + 1, j + 1, by have := hjj.out; omega, by omega, by go_num, hCd2, by rw [HX.out]; exact hJd2⟩
          case measure => simp [intOf]; omega
        · refine hK _ _ ?_
          have hJd2 := Lib.hid hJx2
          clear hJx2 hR hy
          simp only [Act.put, List.setIfInBounds_toArray, List.set_cons_succ, List.set_cons_zero]
          refine Lim.segC (fun _ => True) [] ?_
          refine Lim.stepR 12 (fun _ => trivial) rfl (by kernel_rfl) (fun _ _ _ _ h => h) trivial rfl ?_; apply Exists.intro; refine ⟨?_, ?_⟩
          · rintro w -; go_simp; try with_reducible rfl
          simp only [Act.put, List.setIfInBounds_toArray, List.set_cons_succ, List.set_cons_zero]
          refine Lim.stepR 13 (fun _ => trivial) rfl (by kernel_rfl) (fun _ _ _ _ h => h) trivial rfl ?_; apply Exists.intro; refine ⟨?_, ?_⟩
          · rintro w -; go_simp; try with_reducible rfl
          simp only [Act.put, List.setIfInBounds_toArray, List.set_cons_succ, List.set_cons_zero]
          refine Lim.stepD (by kernel_rfl) ?_
          gi_wp2
          refine bodyPost_ret (results_none rfl _ _ _) rfl ?_
          exact ⟨⟨_, rfl⟩, .inr ⟨_, HP.out, hJd2.out⟩⟩
      | false =>
        have HX : Hid (aheadTo row i (m + 1) = aheadTo row i m) := Lib.hid (by rw [aheadTo, ← hjj.out, ← HV.out]; simp)
        refine Lim.regC (fun w => Ca2 q2 q3 b i j false w) [] #[false, false, false, false, false, false, false, false, false, false, false, false, false, false] (by kernel_rfl) rfl ?_
        refine Lim.stepR 0 (fun _ => trivial) rfl (by kernel_rfl) (fun _ _ _ _ h => h) hC rfl ?_; apply Exists.intro; refine ⟨?_, ?_⟩
        · rintro w ⟨r1, r2, r3⟩; go_simp; try with_reducible rfl
        simp only [Act.put, List.setIfInBounds_toArray, List.set_cons_succ, List.set_cons_zero]
        refine Lim.stepR 1 (fun _ => trivial) rfl (by kernel_rfl) (fun _ _ _ _ h => h) hC rfl ?_; apply Exists.intro; refine ⟨?_, ?_⟩
        · rintro w ⟨r1, r2, r3⟩; go_simp; try with_reducible rfl
        simp only [Act.put, List.setIfInBounds_toArray, List.set_cons_succ, List.set_cons_zero]
        refine Lim.stepR 2 (fun _ => trivial) rfl (by kernel_rfl) (fun _ _ _ _ h => h) hC rfl ?_; apply Exists.intro; refine ⟨?_, ?_⟩
        · rintro w ⟨r1, r2, r3⟩; go_simp; try with_reducible rfl
        simp only [Act.put, List.setIfInBounds_toArray, List.set_cons_succ, List.set_cons_zero]
        refine Lim.stepR 3 (fun _ => trivial) rfl (by kernel_rfl) (fun _ _ _ _ h => h) hC rfl ?_; apply Exists.intro; refine ⟨?_, ?_⟩
        · rintro w ⟨r1, r2, r3⟩; go_simp; try with_reducible rfl
        simp only [Act.put, List.setIfInBounds_toArray, List.set_cons_succ, List.set_cons_zero]
        refine Lim.stepR 4 (fun _ => trivial) rfl (by kernel_rfl) (fun _ _ _ _ h => h) hC rfl ?_; apply Exists.intro; refine ⟨?_, ?_⟩
        · rintro w ⟨r1, r2, r3⟩; go_simp; try with_reducible rfl
        simp only [Act.put, List.setIfInBounds_toArray, List.set_cons_succ, List.set_cons_zero]
        refine Lim.stepR 5 (fun _ => trivial) rfl (by kernel_rfl) (fun _ _ _ _ h => h) hC rfl ?_; apply Exists.intro; refine ⟨?_, ?_⟩
        · rintro w ⟨r1, r2, r3⟩; go_simp; try with_reducible rfl
        simp only [Act.put, List.setIfInBounds_toArray, List.set_cons_succ, List.set_cons_zero]
        refine Lim.stepR 6 (fun _ => trivial) rfl (by kernel_rfl) (fun _ _ _ _ h => h) hC rfl ?_; apply Exists.intro; refine ⟨?_, ?_⟩
        · rintro w ⟨r1, r2, r3⟩; go_simp; try with_reducible rfl
        simp only [Act.put, List.setIfInBounds_toArray, List.set_cons_succ, List.set_cons_zero]
        refine Lim.stepR 7 (fun _ => trivial) rfl (by kernel_rfl) (fun _ _ _ _ h => h) hC rfl ?_; apply Exists.intro; refine ⟨?_, ?_⟩
        · rintro w ⟨r1, r2, r3⟩; go_simp; try with_reducible rfl
        simp only [Act.put, List.setIfInBounds_toArray, List.set_cons_succ, List.set_cons_zero]
        refine Lim.stepR 8 (fun _ => trivial) rfl (by kernel_rfl) (fun _ _ _ _ h => h) hC rfl ?_; apply Exists.intro; refine ⟨?_, ?_⟩
        · rintro w ⟨r1, r2, r3⟩; go_simp; try with_reducible rfl
        simp only [Act.put, List.setIfInBounds_toArray, List.set_cons_succ, List.set_cons_zero]
        refine Lim.stepS 9 (fun _ => trivial) rfl (by kernel_rfl) (fun _ _ _ _ h => h) hC rfl ?_
        simp only [Act.put, List.setIfInBounds_toArray, List.set_cons_succ, List.set_cons_zero]
        refine Lim.stepS 10 (fun _ => trivial) rfl (by kernel_rfl) (fun _ _ _ _ h => h) hC rfl ?_
        simp only [Act.put, List.setIfInBounds_toArray, List.set_cons_succ, List.set_cons_zero]
        refine Lim.stepS 11 (fun _ => trivial) rfl (by kernel_rfl) (fun _ _ _ _ h => h) hC rfl ?_
        simp only [Act.put, List.setIfInBounds_toArray, List.set_cons_succ, List.set_cons_zero]
        refine Lim.stepS 12 (fun _ => trivial) rfl (by kernel_rfl) (fun _ _ _ _ h => h) hC rfl ?_
        simp only [Act.put, List.setIfInBounds_toArray, List.set_cons_succ, List.set_cons_zero]
        refine Lim.stepR 13 (fun _ => trivial) rfl (by kernel_rfl) (fun _ _ _ _ h => h) hC rfl ?_; apply Exists.intro; refine ⟨?_, ?_⟩
        · rintro w ⟨r1, r2, r3⟩; go_simp; try with_reducible rfl
        simp only [Act.put, List.setIfInBounds_toArray, List.set_cons_succ, List.set_cons_zero]
        refine Lim.stepD (by kernel_rfl) ?_
        gi_wp2
        go_roundw
        case rel => exact ⟨m + 1, j + 1, by have := hjj.out; omega, by omega, by go_num, hCd, by rw [HX.out]; exact hjd⟩
        case measure => simp [intOf]; omega
    · have hm : Hid (m = n - 1 - i) := Lib.hid (by omega)
      gi_wp2
      refine bodyPost_end (results_none rfl _ _ _) rfl ?_
      exact ⟨⟨_, rfl⟩, .inl ⟨_, by rw [aheadL, ← hm.out], hJ.out⟩⟩
end Go.Proofs.Ytohjinbgbfggcaa
/-
  The places ahead: the iterator's contract for its callers; its list in plain words.
-/
namespace Go.Proofs.Ytohjinbgbfggcaa
open Go.RowKit Go.Shelf
open Lim

theorem mem_aheadTo {row : Nat → Bool} {i : Nat} {x : Int} : ∀ {m : Nat}, x ∈ aheadTo row i m ↔ ∃ j : Nat, x = j ∧ i < j ∧ j < i + 1 + m ∧ row j = true
  | 0 => ⟨fun h => (by cases h), fun ⟨j, _, h1, h2, _⟩ => absurd h1 (by omega)⟩
  | m + 1 => by
    rw [aheadTo, List.mem_append, mem_aheadTo]
    constructor
    · rintro (⟨j, h1, h2, h3, h4⟩ | h)
      · exact ⟨j, h1, h2, by omega, h4⟩
      · split at h
        · rename_i hr
          exact ⟨i + 1 + m, by simpa using h, by omega, by omega, hr⟩
        · cases h
    · rintro ⟨j, h1, h2, h3, h4⟩
      by_cases e : j = i + 1 + m
      · subst e; rw [if_pos h4]; exact .inr (by simp [h1])
      · exact .inl ⟨j, h1, h2, by omega, h4⟩
theorem mem_aheadL {row : Nat → Bool} {n i : Nat} (hi : i < n) {x : Int} : x ∈ aheadL row n i ↔ ∃ j : Nat, x = j ∧ i < j ∧ j < n ∧ row j = true := by
  rw [aheadL, mem_aheadTo, show i + 1 + (n - 1 - i) = n by omega]
theorem aheadTo_up (row : Nat → Bool) (i : Nat) : ∀ m, (aheadTo row i m).Pairwise (· < ·)
  | 0 => .nil
  | m + 1 => by
    rw [aheadTo, List.pairwise_append]
    refine ⟨aheadTo_up row i m, by split <;> simp, fun a ha b hb => ?_⟩
    obtain ⟨j, rfl, -, h, -⟩ := mem_aheadTo.1 ha
    split at hb
    · obtain rfl : b = ((i + 1 + m : Nat) : Int) := by simpa using hb
      exact Int.ofNat_lt.2 h
    · cases hb
/-- what stands before a place has been met before it -/
theorem aheadL_before {row : Nat → Bool} {n i j k : Nat} (hi : i < n) {pre : List Int} (h : pre ++ [(j : Int)] <+: aheadL row n i) (hik : i < k) (hkj : k < j) (hk : row k = true) : (k : Int) ∈ pre := by
  have hj : (j : Int) ∈ aheadL row n i := h.subset (by simp)
  obtain ⟨j', h1, h2, h3, h4⟩ := (mem_aheadL hi).1 hj
  have hkm : (k : Int) ∈ aheadL row n i := (mem_aheadL hi).2 ⟨k, rfl, hik, by omega, hk⟩
  obtain ⟨r, hr⟩ := h
  have hp := aheadTo_up row i (n - 1 - i)
  rw [show aheadTo row i (n - 1 - i) = aheadL row n i from rfl, ← hr, List.pairwise_append] at hp
  rw [← hr] at hkm
  rcases List.mem_append.1 hkm with h5 | h5
  · rcases List.mem_append.1 h5 with h5 | h5
    · exact h5
    · have : (k : Int) = j := by simpa using h5
      omega
  · have := hp.2.2 j (by simp) k h5
    omega
theorem Ca.steady {q2 q3 b n i ac B : Nat} {row : Nat → Bool} {a : Option Addr} {w w' : World} (h : Ca q2 q3 b n i row a ac w) (hs : Steady B w w') : Ca q2 q3 b n i row a ac w' :=
  ⟨hs.cell h.1, hs.cell h.2.1, hs.cell h.2.2.1, fun j hj => hs.cell (h.2.2.2 j hj)⟩
theorem Ca.below {q2 q3 b n i ac : Nat} {row : Nat → Bool} {a : Option Addr} {w w' : World} (h : Ca q2 q3 b n i row a ac w) (hb : Below w.heap.size w w') : Ca q2 q3 b n i row a ac w' :=
  ⟨hb.on h.1, hb.on h.2.1, hb.on h.2.2.1, fun j hj => hb.on (h.2.2.2 j hj)⟩
theorem ahead_iter {q2 q3 b n i ac : Nat} {row : Nat → Bool} {a : Option Addr} {w : World} (hn : n ≤ 40) (hi : i < n) (h : Ca q2 q3 b n i row a ac w) :
    IterAt Try.prog 76 #[.pointer (some ⟨q3, 0, none⟩), .pointer (some ⟨q2, 0, none⟩)] (Ca q2 q3 b n i row a ac) (aheadL row n i) w := by
  intro n' l J Jx W hW hJ hJx hY h0
  have hCW := h.below hW
  have key := ahead1_in n' l q2 q3 b n i ac row a (fun pre W => ∃ pl : List { x : Int // x ∈ aheadL row n i }, pl.map (·.1) = pre ∧ J pl W)
    (fun pre W => ∃ pl : List { x : Int // x ∈ aheadL row n i }, pl.map (·.1) = pre ∧ Jx pl W) ?_ ?_ W hn hi hCW ⟨[], rfl, h0⟩
  · refine key.mono ?_
    rintro e W' ⟨hv, ⟨ys, hys, pl, hpl, hj⟩ | ⟨pre, hpre, pl, hpl, hj⟩⟩
    · exact ⟨hv, .inl ⟨pl, hpl.trans hys, hj⟩⟩
    · exact ⟨hv, .inr ⟨pl, (by show pl.map (·.1) <+: _; rw [hpl]; exact hpre), hj⟩⟩
  · rintro pre x W1 ⟨pl, hpl, hj⟩ hpre
    have hx : x ∈ aheadL row n i := hpre.subset (by simp)
    have hlen : pl.length < (aheadL row n i).length + 1 := by
      have h1 := hpre.length_le
      rw [← hpl] at h1
      simp at h1
      omega
    obtain ⟨fn, tmps, assign, body, hy, hR⟩ := hY pl ⟨x, hx⟩ W1 hj hlen
    refine ⟨fn, tmps, assign, body, hy, hR.mono ?_⟩
    rintro e W' (⟨he, hj', hk⟩ | ⟨he, hj'⟩)
    · exact .inl ⟨he, ⟨pl ++ [⟨x, hx⟩], by simp [hpl], hj'⟩, hk⟩
    · exact .inr ⟨he, ⟨pl ++ [⟨x, hx⟩], by simp [hpl], hj'⟩⟩
  · rintro pre W1 ⟨pl, hpl, hj⟩
    exact ⟨pl, hpl, hJ pl W1 W1.drew none hj ⟨rfl, rfl, rfl, Nat.le_refl _, fun _ _ _ => rfl⟩ (fun r e => by cases e)⟩
set_option maxHeartbeats 400000 in
theorem ahead_any (p c : Value) (w : World) (hp : ∃ q, p = .pointer q) (hc : ∃ n, c = .int .i64 n) :
    Calls Try.prog 56 #[p, c] w fun e w' =>
      e = .returned (.func (.func 76) #[] #[.pointer (some ⟨w.heap.size + 1, 0, none⟩), .pointer (some ⟨w.heap.size, 0, none⟩)]) ∧
      (w.alloc (.cells #[p] 58)).alloc (.cells #[c] 3) = w' := by
  obtain ⟨q, rfl⟩ := hp
  obtain ⟨n, rfl⟩ := hc
  go_enter Try.func56, Try.ntmps56
  go_wp2
  go_ret
  exact ⟨rfl, rfl⟩
/-- a profile's table: its first cell and the places that surely see each other -/
structure WkN (b n ac : Nat) (a : Option Addr) (S : Nat → Nat → Bool) (w : World) : Prop where
  c0 : w.cell? ⟨b, 0, none⟩ = some (.slice a n ac)
  s : ∀ i j, i < 40 → j < 40 → w.cell? ⟨b, 5 + i * 40 + j, none⟩ = some (.bool (S i j))
theorem WkN.lt {b n ac : Nat} {a : Option Addr} {S : Nat → Nat → Bool} {w : World} (h : WkN b n ac a S w) : b < w.heap.size := World.block_lt_of_cell? _ _ h.c0
theorem WkN.grow {b n ac : Nat} {a : Option Addr} {S : Nat → Nat → Bool} {w w' : World} (h : WkN b n ac a S w) (hb : Below w.heap.size w w') : WkN b n ac a S w' := ⟨hb.on h.c0, fun i j hi hj => hb.on (h.s i j hi hj)⟩
theorem WkN.below {b n ac B : Nat} {a : Option Addr} {S : Nat → Nat → Bool} {w w' : World} (h : WkN b n ac a S w) (hb : Below B w w') (hB : b < B) : WkN b n ac a S w' :=
  ⟨(hb.cell (p := ⟨b, 0, none⟩) hB).trans h.c0, fun i j hi hj => (hb.cell (p := ⟨b, 5 + i * 40 + j, none⟩) hB).trans (h.s i j hi hj)⟩
theorem WkN.steady {b n ac B : Nat} {a : Option Addr} {S : Nat → Nat → Bool} {w w' : World} (h : WkN b n ac a S w) (hs : Steady B w w') : WkN b n ac a S w' := ⟨hs.cell h.c0, fun i j hi hj => hs.cell (h.s i j hi hj)⟩
/-- the world behind a call of ahead -/
theorem WkN.ahead {b n ac i : Nat} {a : Option Addr} {S : Nat → Nat → Bool} {w : World} (h : WkN b n ac a S w) (hi : i < 40) :
    Ca w.heap.size (w.heap.size + 1) b n i (S i) a ac ((w.alloc (.cells #[.pointer (some ⟨b, 0, none⟩)] 58)).alloc (.cells #[.int .i64 i] 3)) := by
  have hb : Below w.heap.size w ((w.alloc (.cells #[.pointer (some ⟨b, 0, none⟩)] 58)).alloc (.cells #[.int .i64 i] 3)) := ((Below.refl _ w).alloc (Nat.le_refl _) _).alloc (by simp) _
  refine ⟨?_, ?_, hb.on h.c0, fun j hj => hb.on (h.s i j hi hj)⟩
  · simp [go_sem]
  · simp [go_sem]
end Go.Proofs.Ytohjinbgbfggcaa
