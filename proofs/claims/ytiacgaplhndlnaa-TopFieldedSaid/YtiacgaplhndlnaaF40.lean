/-
  Parts of the proof, in the order in which they build: CoE.
-/
import Derived.RangeFuncNested
import Derived.RangeFuncBound
import Derived.RangeFuncCalls
import Derived.RangeFuncLeaves
import Derived.Shelf.Abstract
import Derived.WalkKit
import Derived.IntWalk
import Derived.Lib.Hide
import Derived.OwnWalkIn
import Derived.TacticsInMore
import Derived.LoopNIn
import Derived.LoopIn
import Derived.Test.YtiacgaplhndlnaaF38
import Derived.Test.YtiacgaplhndlnaaF39
import Derived.Test.YtiacgaplhndlnaaF2
set_option linter.unusedVariables false
set_option linter.unusedSimpArgs false
namespace Go.Proofs.Ytiacgaplhndlnaa
open Go.RowKit Go.Shelf
open Lim
attribute [local go_sem] Oper.semAt_some

/-- the claims that strike one -/
def strkL (S : List (Nat × Nat)) (n : Nat) : List Int := (S.filter fun s => decide (s.2 = n)).map fun s => (s.1 : Int)
theorem strkL_pre (S : List (Nat × Nat)) (n k : Nat) : strkL (S.take k) n <+: strkL S n := ((List.take_prefix k S).filter _).map _
theorem strkL_yes {S : List (Nat × Nat)} {n k : Nat} (hk : k < S.length) (h : (S.getD k (0, 0)).2 = n) : strkL (S.take (k + 1)) n = strkL (S.take k) n ++ [((S.getD k (0, 0)).1 : Int)] := by
  have e : S.getD k (0, 0) = S[k] := by rw [List.getD_eq_getElem?_getD, List.getElem?_eq_getElem hk]; rfl
  rw [List.take_succ_eq_append_getElem hk, ← e]
  unfold strkL
  rw [List.filter_append, List.map_append]
  generalize S.getD k (0, 0) = s at h
  simp [List.filter, h]
theorem strkL_no {S : List (Nat × Nat)} {n k : Nat} (hk : k < S.length) (h : (S.getD k (0, 0)).2 ≠ n) : strkL (S.take (k + 1)) n = strkL (S.take k) n := by
  have e : S.getD k (0, 0) = S[k] := by rw [List.getD_eq_getElem?_getD, List.getElem?_eq_getElem hk]; rfl
  rw [List.take_succ_eq_append_getElem hk, ← e]
  unfold strkL
  rw [List.filter_append, List.map_append]
  generalize S.getD k (0, 0) = s at h
  simp [List.filter, h]
theorem mem_strkL {S : List (Nat × Nat)} {n : Nat} {x : Int} : x ∈ strkL S n ↔ ∃ b : Nat, x = b ∧ (b, n) ∈ S := by
  unfold strkL
  constructor
  · intro h
    obtain ⟨⟨b, m⟩, h1, rfl⟩ := List.mem_map.1 h
    rw [List.mem_filter] at h1
    have e : m = n := of_decide_eq_true h1.2
    subst e
    exact ⟨b, rfl, h1.1⟩
  · rintro ⟨b, rfl, h⟩
    exact List.mem_map.2 ⟨(b, n), List.mem_filter.2 ⟨h, by simp⟩, rfl⟩
/-- the cells that the iterator reads -/
structure Cs (B q2 q3 b n : Nat) (sv : Value) (S : List (Nat × Nat)) (w : World) : Prop where
  n3 : w.cell? ⟨q3, 0, none⟩ = some (.int .i64 n)
  d2 : w.cell? ⟨q2, 0, none⟩ = some (.pointer (some ⟨b, 0, none⟩))
  s1 : w.cell? ⟨b, 1, none⟩ = some sv
  su : w.cell? ⟨b, 17 + n, none⟩ = some (.bool false)
  r : RS B w sv S.length (spans (stk S))
  B : B ≤ w.heap.size
theorem Cs.on {B q2 q3 b n : Nat} {sv : Value} {S : List (Nat × Nat)} {w w' : World} (h : Cs B q2 q3 b n sv S w) (hb : Below w.heap.size w w') : Cs B q2 q3 b n sv S w' :=
  ⟨hb.on h.n3, hb.on h.d2, hb.on h.s1, hb.on h.su, h.r.below (hb.mono h.B), Nat.le_trans h.B hb.size⟩
/-- .. in one round -/
def Cs2 (q2 q3 qs b n : Nat) (x y : Int) (w : World) : Prop :=
  w.cell? ⟨q3, 0, none⟩ = some (.int .i64 n) ∧ w.cell? ⟨q2, 0, none⟩ = some (.pointer (some ⟨b, 0, none⟩)) ∧ w.cell? ⟨b, 17 + n, none⟩ = some (.bool false) ∧ w.cell? ⟨qs, 0, none⟩ = some (.int .i64 x) ∧ w.cell? ⟨qs, 1, none⟩ = some (.int .i64 y)
set_option maxRecDepth 100000 in
set_option maxHeartbeats 1000000 in
theorem striking1_in (n' : Nat) (l B q2 q3 b n sc : Nat) (sa : Option Addr) (S : List (Nat × Nat)) (J Jx : List Int → World → Prop)
    (hY : ∀ pre x W, J pre W → pre ++ [x] <+: strkL S n → YieldAt Fence.wide (n' - 1) Try.prog l #[.int .i64 x] W fun e W' =>
      (e = .returned (.bool true) ∧ J (pre ++ [x]) W' ∧ (Cs B q2 q3 b n (.slice sa S.length sc) S W → Cs B q2 q3 b n (.slice sa S.length sc) S W')) ∨ (e = .returned (.bool false) ∧ Jx (pre ++ [x]) W'))
    (hJd : ∀ pre W W', J pre W → W.grownBy W' none → J pre W')
    (W : World) (hn : n < 14) (hS : S.length ≤ 60) (hC0 : Cs B q2 q3 b n (.slice sa S.length sc) S W) (h0 : J [] W) :
    CallsIn Fence.wide n' Try.prog 138 #[.func (.yield l) #[] #[], .pointer (some ⟨q2, 0, none⟩), .pointer (some ⟨q3, 0, none⟩)] W fun e W' => (∃ v, e = .returned v) ∧
      ((∃ ys, ys = strkL S n ∧ J ys W') ∨ (∃ pre, pre <+: strkL S n ∧ Jx pre W')) := by
  have HY := Lib.hid hY
  have HJ := Lib.hid hJd
  have HC := Lib.hid hC0
  have H0 := Lib.hid h0
  have r2 := hC0.d2
  have r3 := hC0.s1
  clear hC0 hY hJd h0
  refine callsIn_of_wp Try.func138 rfl trivial ?_ rfl
  simp only [Try.ntmps138, List.size_toArray, List.length_cons, List.length_nil, Nat.reduceAdd, Nat.reduceSub, Array.replicate_succ, Array.replicate_zero, List.push_toArray, List.append_toArray, List.nil_append, List.cons_append]
  gi_wp2
  gi_loopw [12] (fun kv wr => ∃ k : Nat, k ≤ S.length ∧ kv = .int .i64 k ∧ Hid (Cs B q2 q3 b n (.slice sa S.length sc) S wr) ∧ Hid (J (strkL (S.take k) n) wr)) (fun kv _ => S.length - (intOf kv).toNat)
  case atStart => exact ⟨0, Nat.zero_le _, by go_num, HC, H0⟩
  case round =>
    clear H0 HC r2 r3
    obtain ⟨k, hk, rfl, hC, hJ⟩ := hrel
    by_cases hlt : k < S.length
    · have hlt' : (k : Int) < S.length := by omega
      have hk60 : (k : Int) < 60 := by omega
      have hn14 : (n : Int) < 14 := by omega
      obtain ⟨sb, so, cap, e, s0, s1⟩ := strike_cells hC.out.r hlt
      obtain ⟨x, hx⟩ : ∃ x, x = (S.getD k (0, 0)).1 := ⟨_, rfl⟩
      obtain ⟨y, hy⟩ : ∃ y, y = (S.getD k (0, 0)).2 := ⟨_, rfl⟩
      rw [← hx] at s0
      rw [← hy] at s1
      simp only [Value.slice.injEq, true_and] at e
      obtain ⟨rfl, rfl⟩ := e
      have HX := Lib.hid hx
      have HYY := Lib.hid hy
      have HHS := Lib.hid hS
      clear hx hy hS
      have hb1 : Below wr.heap.size wr (wr.alloc (.cells #[.int .i64 x, .int .i64 y] 38)).drew := ((Below.refl _ wr).alloc (Nat.le_refl _) _).drew
      have hjd := Lib.hid (HJ.out _ _ _ hJ.out (show wr.grownBy (wr.alloc (.cells #[.int .i64 x, .int .i64 y] 38)).drew none from ⟨hb1.os, hb1.tape, hb1.output, hb1.size, fun k hk _ => hb1.block k hk⟩))
      have hCd : Hid (Cs B q2 q3 b n (.slice (some ⟨sb, so, none⟩) S.length sc) S (wr.alloc (.cells #[.int .i64 x, .int .i64 y] 38)).drew) := Lib.hid (hC.out.on hb1)
      have b0 : (wr.alloc (.cells #[.int .i64 x, .int .i64 y] 38)).cell? ⟨wr.heap.size, 0, none⟩ = some (.int .i64 x) := by simp [go_sem]
      have b1 : (wr.alloc (.cells #[.int .i64 x, .int .i64 y] 38)).cell? ⟨wr.heap.size, 1, none⟩ = some (.int .i64 y) := by simp [go_sem]
      clear hb1
      gi_wp2_with fail
      clear s0 s1
      generalize wr.alloc (.cells #[.int .i64 x, .int .i64 y] 38) = w1 at hjd hCd b0 b1 ⊢
      have hC : (fun w => Cs2 q2 q3 wr.heap.size b n x y w) w1.drew := ⟨hCd.out.n3, hCd.out.d2, hCd.out.su, b0, b1⟩
      clear b0 b1
      by_cases hyn : y = n
      · subst hyn
        have HXX : Hid (strkL (S.take (k + 1)) y = strkL (S.take k) y ++ [(x : Int)]) := Lib.hid (by rw [strkL_yes hlt HYY.out.symm, ← HX.out])
        have HP : Hid (strkL (S.take k) y ++ [(x : Int)] <+: strkL S y) := Lib.hid (by rw [← HXX.out]; exact strkL_pre S y _)
        have hY := HY.out (strkL (S.take k) y) (x : Int) w1.drew hjd.out HP.out
        refine Lim.regC (fun w => Cs2 q2 q3 wr.heap.size b y x y w) [17] #[false, false, false, false, false, false, false, false, false, false, false, false, false, false, false, false, false, false, false, false] (by kernel_rfl) rfl ?_
        refine Lim.stepR 0 (fun _ => trivial) rfl (by kernel_rfl) (fun _ _ _ _ h => h) hC rfl ?_; apply Exists.intro; refine ⟨?_, ?_⟩
        · rintro w ⟨r1, r2, r3, r4, r5⟩; go_simp; try with_reducible rfl
        simp only [Act.put, List.setIfInBounds_toArray, List.set_cons_succ, List.set_cons_zero]
        refine Lim.stepR 1 (fun _ => trivial) rfl (by kernel_rfl) (fun _ _ _ _ h => h) hC rfl ?_; apply Exists.intro; refine ⟨?_, ?_⟩
        · rintro w ⟨r1, r2, r3, r4, r5⟩; go_simp; try with_reducible rfl
        simp only [Act.put, List.setIfInBounds_toArray, List.set_cons_succ, List.set_cons_zero]
        refine Lim.stepR 2 (fun _ => trivial) rfl (by kernel_rfl) (fun _ _ _ _ h => h) hC rfl ?_; apply Exists.intro; refine ⟨?_, ?_⟩
        · rintro w ⟨r1, r2, r3, r4, r5⟩; go_simp; try with_reducible rfl
        simp only [Act.put, List.setIfInBounds_toArray, List.set_cons_succ, List.set_cons_zero]
        refine Lim.stepR 3 (fun _ => trivial) rfl (by kernel_rfl) (fun _ _ _ _ h => h) hC rfl ?_; apply Exists.intro; refine ⟨?_, ?_⟩
        · rintro w ⟨r1, r2, r3, r4, r5⟩; go_simp; try with_reducible rfl
        simp only [Act.put, List.setIfInBounds_toArray, List.set_cons_succ, List.set_cons_zero]
        refine Lim.stepR 4 (fun _ => trivial) rfl (by kernel_rfl) (fun _ _ _ _ h => h) hC rfl ?_; apply Exists.intro; refine ⟨?_, ?_⟩
        · rintro w ⟨r1, r2, r3, r4, r5⟩; go_simp; try with_reducible rfl
        simp only [Act.put, List.setIfInBounds_toArray, List.set_cons_succ, List.set_cons_zero]
        refine Lim.stepR 5 (fun _ => trivial) rfl (by kernel_rfl) (fun _ _ _ _ h => h) hC rfl ?_; apply Exists.intro; refine ⟨?_, ?_⟩
        · rintro w ⟨r1, r2, r3, r4, r5⟩; go_simp; try with_reducible rfl
        simp only [Act.put, List.setIfInBounds_toArray, List.set_cons_succ, List.set_cons_zero]
        refine Lim.stepR 6 (fun _ => trivial) rfl (by kernel_rfl) (fun _ _ _ _ h => h) hC rfl ?_; apply Exists.intro; refine ⟨?_, ?_⟩
        · rintro w ⟨r1, r2, r3, r4, r5⟩; go_simp; try with_reducible rfl
        simp only [Act.put, List.setIfInBounds_toArray, List.set_cons_succ, List.set_cons_zero]
        refine Lim.stepR 7 (fun _ => trivial) rfl (by kernel_rfl) (fun _ _ _ _ h => h) hC rfl ?_; apply Exists.intro; refine ⟨?_, ?_⟩
        · rintro w ⟨r1, r2, r3, r4, r5⟩; go_simp; try with_reducible rfl
        simp only [Act.put, List.setIfInBounds_toArray, List.set_cons_succ, List.set_cons_zero]
        refine Lim.stepR 8 (fun _ => trivial) rfl (by kernel_rfl) (fun _ _ _ _ h => h) hC rfl ?_; apply Exists.intro; refine ⟨?_, ?_⟩
        · rintro w ⟨r1, r2, r3, r4, r5⟩; go_simp; try with_reducible rfl
        simp only [Act.put, List.setIfInBounds_toArray, List.set_cons_succ, List.set_cons_zero]
        refine Lim.stepR 9 (fun _ => trivial) rfl (by kernel_rfl) (fun _ _ _ _ h => h) hC rfl ?_; apply Exists.intro; refine ⟨?_, ?_⟩
        · rintro w ⟨r1, r2, r3, r4, r5⟩; go_simp; try with_reducible rfl
        simp only [Act.put, List.setIfInBounds_toArray, List.set_cons_succ, List.set_cons_zero]
        refine Lim.stepR 10 (fun _ => trivial) rfl (by kernel_rfl) (fun _ _ _ _ h => h) hC rfl ?_; apply Exists.intro; refine ⟨?_, ?_⟩
        · rintro w ⟨r1, r2, r3, r4, r5⟩; go_simp; try with_reducible rfl
        simp only [Act.put, List.setIfInBounds_toArray, List.set_cons_succ, List.set_cons_zero]
        refine Lim.stepR 11 (fun _ => trivial) rfl (by kernel_rfl) (fun _ _ _ _ h => h) hC rfl ?_; apply Exists.intro; refine ⟨?_, ?_⟩
        · rintro w ⟨r1, r2, r3, r4, r5⟩; go_simp; try with_reducible rfl
        simp only [Act.put, List.setIfInBounds_toArray, List.set_cons_succ, List.set_cons_zero]
        refine Lim.stepR 12 (fun _ => trivial) rfl (by kernel_rfl) (fun _ _ _ _ h => h) hC rfl ?_; apply Exists.intro; refine ⟨?_, ?_⟩
        · rintro w ⟨r1, r2, r3, r4, r5⟩; go_simp; try with_reducible rfl
        simp only [Act.put, List.setIfInBounds_toArray, List.set_cons_succ, List.set_cons_zero]
        refine Lim.stepR 13 (fun _ => trivial) rfl (by kernel_rfl) (fun _ _ _ _ h => h) hC rfl ?_; apply Exists.intro; refine ⟨?_, ?_⟩
        · rintro w ⟨r1, r2, r3, r4, r5⟩; go_simp; try with_reducible rfl
        simp only [Act.put, List.setIfInBounds_toArray, List.set_cons_succ, List.set_cons_zero]
        refine Lim.stepR 14 (fun _ => trivial) rfl (by kernel_rfl) (fun _ _ _ _ h => h) hC rfl ?_; apply Exists.intro; refine ⟨?_, ?_⟩
        · rintro w ⟨r1, r2, r3, r4, r5⟩; go_simp; try with_reducible rfl
        simp only [Act.put, List.setIfInBounds_toArray, List.set_cons_succ, List.set_cons_zero]
        refine Lim.stepR 15 (fun _ => trivial) rfl (by kernel_rfl) (fun _ _ _ _ h => h) hC rfl ?_; apply Exists.intro; refine ⟨?_, ?_⟩
        · rintro w ⟨r1, r2, r3, r4, r5⟩; go_simp; try with_reducible rfl
        simp only [Act.put, List.setIfInBounds_toArray, List.set_cons_succ, List.set_cons_zero]
        refine Lim.stepR 16 (fun _ => trivial) rfl (by kernel_rfl) (fun _ _ _ _ h => h) hC rfl ?_; apply Exists.intro; refine ⟨?_, ?_⟩
        · rintro w ⟨r1, r2, r3, r4, r5⟩; go_simp; try with_reducible rfl
        simp only [Act.put, List.setIfInBounds_toArray, List.set_cons_succ, List.set_cons_zero]
        refine Lim.stepX 17 (fun _ => trivial) rfl (by kernel_rfl) rfl rfl (fun K hK => ?_)
        go_simp
        obtain ⟨fn, tmps, assign, body, hy, hR⟩ := hY
        rw [hy]
        simp only [Oper.uponIn]
        refine ⟨fun h => (by cases h), hR.mono ?_⟩
        rintro e W2 (⟨rfl, hJ2, hb2⟩ | ⟨rfl, hJx2⟩)
        · refine hK _ _ ?_
          have hCd2 := Lib.hid (hb2 hCd.out)
          have hJd2 := Lib.hid hJ2
          clear hb2 hJ2 hR hy
          simp only [Act.put, List.setIfInBounds_toArray, List.set_cons_succ, List.set_cons_zero]
          refine Lim.segC (fun _ => True) [] ?_
          refine Lim.stepR 18 (fun _ => trivial) rfl (by kernel_rfl) (fun _ _ _ _ h => h) trivial rfl ?_; apply Exists.intro; refine ⟨?_, ?_⟩
          · rintro w -; go_simp; try with_reducible rfl
          simp only [Act.put, List.setIfInBounds_toArray, List.set_cons_succ, List.set_cons_zero]
          refine Lim.stepR 19 (fun _ => trivial) rfl (by kernel_rfl) (fun _ _ _ _ h => h) trivial rfl ?_; apply Exists.intro; refine ⟨?_, ?_⟩
          · rintro w -; go_simp; try with_reducible rfl
          simp only [Act.put, List.setIfInBounds_toArray, List.set_cons_succ, List.set_cons_zero]
          refine Lim.stepD (by kernel_rfl) ?_
          gi_wp2
          go_roundw
          case rel => exact ⟨k + 1, by omega, by go_num, hCd2, by rw [HXX.out]; exact hJd2⟩
          case measure => simp [intOf]; omega
        · refine hK _ _ ?_
          have hJd2 := Lib.hid hJx2
          clear hJx2 hR hy
          simp only [Act.put, List.setIfInBounds_toArray, List.set_cons_succ, List.set_cons_zero]
          refine Lim.segC (fun _ => True) [] ?_
          refine Lim.stepR 18 (fun _ => trivial) rfl (by kernel_rfl) (fun _ _ _ _ h => h) trivial rfl ?_; apply Exists.intro; refine ⟨?_, ?_⟩
          · rintro w -; go_simp; try with_reducible rfl
          simp only [Act.put, List.setIfInBounds_toArray, List.set_cons_succ, List.set_cons_zero]
          refine Lim.stepR 19 (fun _ => trivial) rfl (by kernel_rfl) (fun _ _ _ _ h => h) trivial rfl ?_; apply Exists.intro; refine ⟨?_, ?_⟩
          · rintro w -; go_simp; try with_reducible rfl
          simp only [Act.put, List.setIfInBounds_toArray, List.set_cons_succ, List.set_cons_zero]
          refine Lim.stepD (by kernel_rfl) ?_
          gi_wp2
          refine bodyPost_ret (results_none rfl _ _ _) rfl ?_
          exact ⟨⟨_, rfl⟩, .inr ⟨_, HP.out, hJd2.out⟩⟩
      · have HXX : Hid (strkL (S.take (k + 1)) n = strkL (S.take k) n) := Lib.hid (strkL_no hlt (by rw [← HYY.out]; exact hyn))
        have hne : ((y : Int) == (n : Int)) = false := by rw [beq_eq_false_iff_ne]; omega
        clear hyn
        refine Lim.regC (fun w => Cs2 q2 q3 wr.heap.size b n x y w) [] #[false, false, false, false, false, false, false, false, false, false, false, false, false, false, false, false, false, false, false, false] (by kernel_rfl) rfl ?_
        refine Lim.stepR 0 (fun _ => trivial) rfl (by kernel_rfl) (fun _ _ _ _ h => h) hC rfl ?_; apply Exists.intro; refine ⟨?_, ?_⟩
        · rintro w ⟨r1, r2, r3, r4, r5⟩; go_simp; try with_reducible rfl
        simp only [Act.put, List.setIfInBounds_toArray, List.set_cons_succ, List.set_cons_zero]
        refine Lim.stepR 1 (fun _ => trivial) rfl (by kernel_rfl) (fun _ _ _ _ h => h) hC rfl ?_; apply Exists.intro; refine ⟨?_, ?_⟩
        · rintro w ⟨r1, r2, r3, r4, r5⟩; go_simp; try with_reducible rfl
        simp only [Act.put, List.setIfInBounds_toArray, List.set_cons_succ, List.set_cons_zero]
        refine Lim.stepR 2 (fun _ => trivial) rfl (by kernel_rfl) (fun _ _ _ _ h => h) hC rfl ?_; apply Exists.intro; refine ⟨?_, ?_⟩
        · rintro w ⟨r1, r2, r3, r4, r5⟩; go_simp; try with_reducible rfl
        simp only [Act.put, List.setIfInBounds_toArray, List.set_cons_succ, List.set_cons_zero]
        refine Lim.stepR 3 (fun _ => trivial) rfl (by kernel_rfl) (fun _ _ _ _ h => h) hC rfl ?_; apply Exists.intro; refine ⟨?_, ?_⟩
        · rintro w ⟨r1, r2, r3, r4, r5⟩; go_simp; try with_reducible rfl
        simp only [Act.put, List.setIfInBounds_toArray, List.set_cons_succ, List.set_cons_zero]
        refine Lim.stepR 4 (fun _ => trivial) rfl (by kernel_rfl) (fun _ _ _ _ h => h) hC rfl ?_; apply Exists.intro; refine ⟨?_, ?_⟩
        · rintro w ⟨r1, r2, r3, r4, r5⟩; go_simp; try with_reducible rfl
        simp only [Act.put, List.setIfInBounds_toArray, List.set_cons_succ, List.set_cons_zero]
        refine Lim.stepS 5 (fun _ => trivial) rfl (by kernel_rfl) (fun _ _ _ _ h => h) hC rfl ?_
        simp only [Act.put, List.setIfInBounds_toArray, List.set_cons_succ, List.set_cons_zero]
        refine Lim.stepS 6 (fun _ => trivial) rfl (by kernel_rfl) (fun _ _ _ _ h => h) hC rfl ?_
        simp only [Act.put, List.setIfInBounds_toArray, List.set_cons_succ, List.set_cons_zero]
        refine Lim.stepS 7 (fun _ => trivial) rfl (by kernel_rfl) (fun _ _ _ _ h => h) hC rfl ?_
        simp only [Act.put, List.setIfInBounds_toArray, List.set_cons_succ, List.set_cons_zero]
        refine Lim.stepS 8 (fun _ => trivial) rfl (by kernel_rfl) (fun _ _ _ _ h => h) hC rfl ?_
        simp only [Act.put, List.setIfInBounds_toArray, List.set_cons_succ, List.set_cons_zero]
        refine Lim.stepS 9 (fun _ => trivial) rfl (by kernel_rfl) (fun _ _ _ _ h => h) hC rfl ?_
        simp only [Act.put, List.setIfInBounds_toArray, List.set_cons_succ, List.set_cons_zero]
        refine Lim.stepS 10 (fun _ => trivial) rfl (by kernel_rfl) (fun _ _ _ _ h => h) hC rfl ?_
        simp only [Act.put, List.setIfInBounds_toArray, List.set_cons_succ, List.set_cons_zero]
        refine Lim.stepS 11 (fun _ => trivial) rfl (by kernel_rfl) (fun _ _ _ _ h => h) hC rfl ?_
        simp only [Act.put, List.setIfInBounds_toArray, List.set_cons_succ, List.set_cons_zero]
        refine Lim.stepR 12 (fun _ => trivial) rfl (by kernel_rfl) (fun _ _ _ _ h => h) hC rfl ?_; apply Exists.intro; refine ⟨?_, ?_⟩
        · rintro w ⟨r1, r2, r3, r4, r5⟩; go_simp; try with_reducible rfl
        simp only [Act.put, List.setIfInBounds_toArray, List.set_cons_succ, List.set_cons_zero]
        refine Lim.stepR 13 (fun _ => trivial) rfl (by kernel_rfl) (fun _ _ _ _ h => h) hC rfl ?_; apply Exists.intro; refine ⟨?_, ?_⟩
        · rintro w ⟨r1, r2, r3, r4, r5⟩; go_simp; try with_reducible rfl
        simp only [Act.put, List.setIfInBounds_toArray, List.set_cons_succ, List.set_cons_zero]
        refine Lim.stepS 14 (fun _ => trivial) rfl (by kernel_rfl) (fun _ _ _ _ h => h) hC rfl ?_
        simp only [Act.put, List.setIfInBounds_toArray, List.set_cons_succ, List.set_cons_zero]
        refine Lim.stepS 15 (fun _ => trivial) rfl (by kernel_rfl) (fun _ _ _ _ h => h) hC rfl ?_
        simp only [Act.put, List.setIfInBounds_toArray, List.set_cons_succ, List.set_cons_zero]
        refine Lim.stepS 16 (fun _ => trivial) rfl (by kernel_rfl) (fun _ _ _ _ h => h) hC rfl ?_
        simp only [Act.put, List.setIfInBounds_toArray, List.set_cons_succ, List.set_cons_zero]
        refine Lim.stepS 17 (fun _ => trivial) rfl (by kernel_rfl) (fun _ _ _ _ h => h) hC rfl ?_
        simp only [Act.put, List.setIfInBounds_toArray, List.set_cons_succ, List.set_cons_zero]
        refine Lim.stepS 18 (fun _ => trivial) rfl (by kernel_rfl) (fun _ _ _ _ h => h) hC rfl ?_
        simp only [Act.put, List.setIfInBounds_toArray, List.set_cons_succ, List.set_cons_zero]
        refine Lim.stepR 19 (fun _ => trivial) rfl (by kernel_rfl) (fun _ _ _ _ h => h) hC rfl ?_; apply Exists.intro; refine ⟨?_, ?_⟩
        · rintro w ⟨r1, r2, r3, r4, r5⟩; go_simp; try with_reducible rfl
        simp only [Act.put, List.setIfInBounds_toArray, List.set_cons_succ, List.set_cons_zero]
        refine Lim.stepD (by kernel_rfl) ?_
        gi_wp2
        go_roundw
        case rel => exact ⟨k + 1, by omega, by go_num, hCd, by rw [HXX.out]; exact hjd⟩
        case measure => simp [intOf]; omega
    · have hm : k = S.length := by omega
      have HM : Hid (strkL (S.take k) n = strkL S n) := Lib.hid (by rw [hm, List.take_length])
      have hlt' : ¬ (k : Int) < S.length := by omega
      clear hm
      gi_wp2
      refine bodyPost_end (results_none rfl _ _ _) rfl ?_
      exact ⟨⟨_, rfl⟩, .inl (by rw [← HM.out]; exact hJ.out)⟩
end Go.Proofs.Ytiacgaplhndlnaa
