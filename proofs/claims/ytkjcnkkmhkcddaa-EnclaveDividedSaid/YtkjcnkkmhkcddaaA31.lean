/-
  Parts of the proof, in the order in which they build: EwB.
-/
import Derived.Lib.SliceRun
import Derived.BigFrame
import Derived.Scope
import Derived.Carry
import Derived.Deep.MidRow
import Derived.Deep.LoopGhost
import Derived.Deep.CutRange
import Derived.BigQuiet
import Derived.Test.YtkjcnkkmhkcddaaA29
set_option linter.unusedVariables false
set_option linter.unusedSimpArgs false
namespace Go.Proofs.Ytkjcnkkmhkcddaa
open Go.RowKit Go.Shelf
open Lim

attribute [local go_sem] Oper.semAt_some

/-- what reaches answers -/
def ReaAns (B bf bm c : Nat) (m : Mp) (oa : Option Addr) (oc : Nat) (ev sv : Value) (R : Nat → Nat → Option Int) (w : World) (e : Ending) (w' : World) : Prop :=
 w.grownBy w' (some bf) ∧ ∃ M Fr rk t q, FlE w' B bf bm m.n m.wd c oa oc ev sv m.os M Fr R ∧
  ((e = .returned (.int .i64 (-1)) ∧ DInv m.n (edR m R) (fun k => m.own k = 0) (fun k => m.own k = 1) M Fr rk t []) ∨
   ∃ last : Nat, e = .returned (.int .i64 last) ∧ M last = true ∧ m.own last = 1 ∧ t ≤ 101 ∧ DBase m.n (edR m R) (fun k => m.own k = 0) M Fr rk t q)
/-- the frame of reaches while its second loop runs -/
def FrR (q1 bs bl : Nat) (a : Act) : Prop := a = { tmps := #[Lim.sl a 0, .pointer (some ⟨q1, 0, none⟩), Lim.sl a 2, .pointer (some ⟨bs, 0, none⟩), Lim.sl a 4, Lim.sl a 5, .pointer (some ⟨bl, 0, none⟩), Lim.sl a 7, Lim.sl a 8, Lim.sl a 9, Lim.sl a 10, Lim.sl a 11, Lim.sl a 12, Lim.sl a 13, Lim.sl a 14, Lim.sl a 15, Lim.sl a 16, Lim.sl a 17, Lim.sl a 18, Lim.sl a 19, Lim.sl a 20, Lim.sl a 21, Lim.sl a 22, Lim.sl a 23, Lim.sl a 24, Lim.sl a 25, Lim.sl a 26, Lim.sl a 27, Lim.sl a 28, Lim.sl a 29, Lim.sl a 30, Lim.sl a 31, Lim.sl a 32, Lim.sl a 33, Lim.sl a 34, Lim.sl a 35, Lim.sl a 36, Lim.sl a 37, Lim.sl a 38, Lim.sl a 39, Lim.sl a 40, Lim.sl a 41, Lim.sl a 42, Lim.sl a 43, Lim.sl a 44, Lim.sl a 45, Lim.sl a 46, Lim.sl a 47, Lim.sl a 48, Lim.sl a 49, Lim.sl a 50, Lim.sl a 51, Lim.sl a 52, Lim.sl a 53, Lim.sl a 54, Lim.sl a 55, Lim.sl a 56, Lim.sl a 57, Lim.sl a 58, Lim.sl a 59, Lim.sl a 60, Lim.sl a 61, Lim.sl a 62, Lim.sl a 63, Lim.sl a 64, Lim.sl a 65, Lim.sl a 66, Lim.sl a 67, Lim.sl a 68, Lim.sl a 69, Lim.sl a 70, Lim.sl a 71, Lim.sl a 72, Lim.sl a 73, Lim.sl a 74, Lim.sl a 75, Lim.sl a 76, Lim.sl a 77, Lim.sl a 78, Lim.sl a 79, Lim.sl a 80, Lim.sl a 81, Lim.sl a 82, Lim.sl a 83, Lim.sl a 84, Lim.sl a 85, Lim.sl a 86, Lim.sl a 87, Lim.sl a 88, Lim.sl a 89, Lim.sl a 90, Lim.sl a 91, Lim.sl a 92, Lim.sl a 93, Lim.sl a 94, Lim.sl a 95, Lim.sl a 96, Lim.sl a 97, Lim.sl a 98, Lim.sl a 99], defers := a.defers }
set_option maxRecDepth 100000 in
set_option maxHeartbeats 4000000 in
theorem reaches_any {B bf bm c : Nat} {m : Mp} {oa : Option Addr} {oc : Nat} {ev sv : Value} {R : Nat → Nat → Option Int} {M0 : Nat → Bool} {F0 : Nat → Int} {w : World} (hm : m.Ok) (hw : FlE w B bf bm m.n m.wd c oa oc ev sv m.os M0 F0 R) :
  Calls Try.prog 76 #[.pointer (some ⟨bf, 0, none⟩)] w fun e w' => ReaAns B bf bm c m oa oc ev sv R w e w' := by
 obtain ⟨go, oo, rfl, -⟩ := cell_of_RS hw.row (p := 0) hm.n0
 have HM := Lib.hid hm
 have hbf := hw.bf_lt
 have hbm := hw.rm.lt
 have hn : m.n ≤ 100 := hm.n1
 refine (callsIn_wide (n := 2)).1 (callsIn_of_wp_marks Try.func76 rfl trivial ?_ rfl)
 simp only [Try.ntmps76, List.size_toArray, List.length_cons, List.length_nil, Nat.reduceAdd, Nat.reduceSub, Array.replicate_succ, Array.replicate_zero, List.push_toArray, List.append_toArray, List.nil_append, List.cons_append]
 refine wpIn_wide.2 ?_
 refine wp_noPanic ?_
 have hb0 : Below w.heap.size w (w.alloc (.cells #[.pointer (some ⟨bf, 0, none⟩)] 104)) := (Below.refl _ w).alloc (Nat.le_refl _) _
 have hw2 := hw.on hb0
 have hcl : ∀ ty, (Builtin.clear_ #[74] ty #[.slice (some ⟨bf, 5, none⟩) 100 100]).run Try.prog (w.alloc (.cells #[.pointer (some ⟨bf, 0, none⟩)] 104)) = .ok (.tuple #[]) ((w.alloc (.cells #[.pointer (some ⟨bf, 0, none⟩)] 104)).setCells bf 5 falses) :=
  fun ty => Lib.run_clear_slice _ 74 4 ty (.bool false) Try.underlying74 zero_bool rfl rfl bf 5 100 100 (by decide) (fun j hj => by rw [(hw2.met j hj).1]; rfl) (fun j hj => (hw2.met j hj).2)
 have s2 := sep_cells bf falses 5 (w.alloc (.cells #[.pointer (some ⟨bf, 0, none⟩)] 104))
 have c1 : ((w.alloc (.cells #[.pointer (some ⟨bf, 0, none⟩)] 104)).setCells bf 5 falses).cell? ⟨w.heap.size, 0, none⟩ = some (.pointer (some ⟨bf, 0, none⟩)) := by
  rw [cells_far (by omega)]; simp [go_sem]
 have sz2 : ((w.alloc (.cells #[.pointer (some ⟨bf, 0, none⟩)] 104)).setCells bf 5 falses).heap.size = w.heap.size + 1 := by rw [size_setCells]; simp
 have gb2 : w.grownBy ((w.alloc (.cells #[.pointer (some ⟨bf, 0, none⟩)] 104)).setCells bf 5 falses) (some bf) := ((Sep.of_below hb0).trans s2).grown (fun k _ hk => hk)
 have hcf := hw2.clear
 have M0 : Hid (ReM w B bf bm c m (some ⟨go, oo, none⟩) oc ev sv R w.heap.size (w.heap.size + 1) (fun _ => false) F0 [] (((w.alloc (.cells #[.pointer (some ⟨bf, 0, none⟩)] 104)).setCells bf 5 falses).alloc (.cells #[.slice none 0 0] 22))) := Lib.hid (by
  generalize (w.alloc (.cells #[.pointer (some ⟨bf, 0, none⟩)] 104)).setCells bf 5 falses = W0 at *
  have hb : Below W0.heap.size W0 (W0.alloc (.cells #[.slice none 0 0] 22)) := (Below.refl _ W0).alloc (Nat.le_refl _) _
  have hst := StM.new (t := 22) W0
  rw [sz2] at hst
  exact ⟨⟨hb.os.trans gb2.os, hb.tape.trans gb2.tape, hb.output.trans gb2.output, Nat.le_trans gb2.size hb.size, fun k h1 h2 => (hb.block k (Nat.lt_of_lt_of_le h1 gb2.size)).trans (gb2.block k h1 h2)⟩, ⟨hbf, hbm, Nat.le_refl _, by omega⟩, hb.on c1, hcf.on hb, hst⟩)
 clear s2 gb2 hcf hw2 hb0 hw hm
 go_wp2
 go_step3
 go_upto_region 2 with (simp only [hcl])
 clear hcl
 generalize hW : World.setCells _ _ _ _ = W0 at *
 clear hW
 go_upto_region 3 with (fail)
 obtain ⟨bs, hbs⟩ : ∃ x, x = w.heap.size + 1 := ⟨_, rfl⟩
 obtain ⟨q1, hq1⟩ : ∃ x, x = w.heap.size := ⟨_, rfl⟩
 rw [← hbs, ← hq1] at M0
 rw [← hbs, ← hq1]
 generalize W0.alloc (.cells #[.slice none 0 0] 22) = W1 at M0 ⊢
 clear hbs hq1 c1 sz2 W0 hbf hbm
 have e1 := M0.out.c1
 have e2 := M0.out.fl.ld.f1
 go_wp2_with fail
 clear e1 e2
 obtain ⟨st, hst⟩ : ∃ st : Nat → Bool, st = fun p => decide (m.own p = 0) := ⟨_, rfl⟩
 have HST := Lib.hid hst
 clear hst
 go_loopw [19] (fun v wr => ∃ k : Nat, k ≤ m.n ∧ v = .int .i64 k ∧ Hid (ReM w B bf bm c m (some ⟨go, oo, none⟩) oc ev sv R q1 bs (met1 st k) (fr1 st k F0) (queue1 st k) wr)) (fun v _ => m.n - (intOf v).toNat)
 case atStart => exact ⟨0, Nat.zero_le _, rfl, by rw [met1_zero, fr1_zero]; exact M0⟩
 case round =>
  clear M0
  obtain ⟨k, hk, rfl, hI⟩ := hrel
  obtain ⟨i0, hi, hz0, hz1, hz2⟩ := info_parts Try.infoInt
  have HF := Lib.hid (And.intro hi (And.intro hz0 (And.intro hz1 hz2)))
  clear hi hz0 hz1 hz2
  by_cases hlt : k < m.n
  ·have hk100 : k < 100 := by omega
   have hk64 : (k : Int) < 100 := by omega
   obtain ⟨ow, how⟩ : ∃ ow, ow = m.own k := ⟨_, rfl⟩
   have e3 : wr.cell? ⟨go, oo + k, none⟩ = some (.int .i64 ow) := by rw [how]; exact hI.out.fl.own hlt
   have HOW := Lib.hid how
   clear how
   by_cases h0 : ow = 0
   ·have g0 : (ow == 0) = true := by simp [h0]
    have HS : Hid (st k = true) := Lib.hid (by rw [HST.out]; exact decide_eq_true (HOW.out.symm.trans h0))
    clear h0
    have M4 := (hI.out.markM hk100).below (Below.refl _ _).drew
    have M5 := ((hI.out.markM hk100).markF hk100 (-1)).below (Below.refl _ _).drew
    have hC3 : (fun W => W.cell? ⟨q1, 0, none⟩ = some (.pointer (some ⟨bf, 0, none⟩))) ((wr.setCell ⟨bf, 5 + k, none⟩ (.bool true)).setCell ⟨bf, 105 + k, none⟩ (.int .i64 (-1))).drew := M5.c1
    have hC2 : (fun W => W.cell? ⟨q1, 0, none⟩ = some (.pointer (some ⟨bf, 0, none⟩))) (wr.setCell ⟨bf, 5 + k, none⟩ (.bool true)).drew := M4.c1
    have hC : (fun W => W.cell? ⟨q1, 0, none⟩ = some (.pointer (some ⟨bf, 0, none⟩))) wr.drew := hI.out.c1
    obtain ⟨m4, m5⟩ := hI.out.fl.met k hk100
    obtain ⟨n4, n5⟩ := (hI.out.markM hk100).fl.fr k hk100
    have H5 := Lib.hid M5
    clear M5 M4
    go_wp2_with fail
    refine Lim.regC' (fun W => W.cell? ⟨q1, 0, none⟩ = some (.pointer (some ⟨bf, 0, none⟩))) [] #[false, false, false, false, false, false, false, false, false, false, false, false] (by kernel_rfl) rfl ?_
    refine Lim.stepR 0 (fun _ => trivial) rfl (by kernel_rfl) (fun _ _ _ _ h => h) hC rfl ?_; apply Exists.intro; refine ⟨?_, ?_⟩
    ·rintro w r1; go_simp; try with_reducible rfl
    simp only [Act.put, List.setIfInBounds_toArray, List.set_cons_succ, List.set_cons_zero]
    refine Lim.stepR 1 (fun _ => trivial) rfl (by kernel_rfl) (fun _ _ _ _ h => h) hC rfl ?_; apply Exists.intro; refine ⟨?_, ?_⟩
    ·rintro w r1; go_simp; try with_reducible rfl
    simp only [Act.put, List.setIfInBounds_toArray, List.set_cons_succ, List.set_cons_zero]
    refine Lim.stepR 2 (fun _ => trivial) rfl (by kernel_rfl) (fun _ _ _ _ h => h) hC rfl ?_; apply Exists.intro; refine ⟨?_, ?_⟩
    ·rintro w r1; go_simp; try with_reducible rfl
    simp only [Act.put, List.setIfInBounds_toArray, List.set_cons_succ, List.set_cons_zero]
    refine Lim.stepR 3 (fun _ => trivial) rfl (by kernel_rfl) (fun _ _ _ _ h => h) hC rfl ?_; apply Exists.intro; refine ⟨?_, ?_⟩
    ·rintro w r1; go_simp; try with_reducible rfl
    simp only [Act.put, List.setIfInBounds_toArray, List.set_cons_succ, List.set_cons_zero]
    refine Lim.stepR 4 (fun _ => trivial) rfl (by kernel_rfl) (fun _ _ _ _ h => h) hC rfl ?_; apply Exists.intro; refine ⟨?_, ?_⟩
    ·rintro w r1; go_simp; try with_reducible rfl
    simp only [Act.put, List.setIfInBounds_toArray, List.set_cons_succ, List.set_cons_zero]
    refine Lim.stepR 5 (fun _ => trivial) rfl (by kernel_rfl) (fun _ _ _ _ h => h) hC rfl ?_; apply Exists.intro; refine ⟨?_, ?_⟩
    ·rintro w r1; go_simp; try with_reducible rfl
    simp only [Act.put, List.setIfInBounds_toArray, List.set_cons_succ, List.set_cons_zero]
    refine Lim.stepR 6 (fun _ => trivial) rfl (by kernel_rfl) (fun _ _ _ _ h => h) hC rfl ?_; apply Exists.intro; refine ⟨?_, ?_⟩
    ·rintro w r1; go_simp; try with_reducible rfl
    simp only [Act.put, List.setIfInBounds_toArray, List.set_cons_succ, List.set_cons_zero]
    refine Lim.stepR 8 (fun _ => trivial) rfl (by kernel_rfl) (fun _ _ _ _ h => h) hC rfl ?_; apply Exists.intro; refine ⟨?_, ?_⟩
    ·rintro w r1; go_simp; try with_reducible rfl
    simp only [Act.put, List.setIfInBounds_toArray, List.set_cons_succ, List.set_cons_zero]
    refine Lim.stepR 9 (fun _ => trivial) rfl (by kernel_rfl) (fun _ _ _ _ h => h) hC rfl ?_; apply Exists.intro; refine ⟨?_, ?_⟩
    ·rintro w r1; go_simp; try with_reducible rfl
    simp only [Act.put, List.setIfInBounds_toArray, List.set_cons_succ, List.set_cons_zero]
    refine Lim.stepE 7 (fun _ => trivial) rfl (by kernel_rfl) rfl (fun K hK => ?_)   -- E store
    go_simp
    refine hK _ _ hC2 ?_
    simp only [Act.put, List.setIfInBounds_toArray, List.set_cons_succ, List.set_cons_zero]
    refine Lim.stepR 10 (fun _ => trivial) rfl (by kernel_rfl) (fun _ _ _ _ h => h) hC2 rfl ?_; apply Exists.intro; refine ⟨?_, ?_⟩
    ·rintro w r1; go_simp; try with_reducible rfl
    simp only [Act.put, List.setIfInBounds_toArray, List.set_cons_succ, List.set_cons_zero]
    refine Lim.stepE 11 (fun _ => trivial) rfl (by kernel_rfl) rfl (fun K hK => ?_)   -- E store
    go_simp
    refine hK _ _ hC3 ?_
    simp only [Act.put, List.setIfInBounds_toArray, List.set_cons_succ, List.set_cons_zero]
    refine Lim.stepD (by kernel_rfl) ?_
    clear hC hC2 hC3 m4 m5 n4 n5 hI e3
    generalize ((wr.setCell ⟨bf, 5 + k, none⟩ (.bool true)).setCell ⟨bf, 105 + k, none⟩ (.int .i64 (-1))).drew = w5 at H5 ⊢
    obtain ⟨v, hv1, hv2, hv3⟩ := H5.out.st.ex
    have HV := Lib.hid (And.intro hv2 hv3)
    have hlq : (queue1 st k).length ≤ 100 := by have := queue1_length st k; omega
    have HLQ := Lib.hid hlq
    clear hv2 hv3 hlq
    go_wp2_with (at_builtin; refine wpList_append_q _ rfl _ _ 22 rfl 3 i0 (.int .i64 0) 8 Try.underlying22 HF.out.1 HF.out.2.1 HF.out.2.2.1 HF.out.2.2.2 rfl (bs + 1) v (ints ((queue1 st k).map Int.ofNat)) rfl (HV.out.2.below ((Below.refl _ _).alloc (Nat.le_refl _) _)) ⟨w5.heap.size, 0, none⟩ 1 (.int .i64 k) rfl (by simp [go_sem]) rfl (by have := HLQ.out; simp [ints]; unfold maxLen; omega) (by have := HLQ.out; simp [ints]; omega) (by have := H5.out.st.lt; simp; omega) ?_; intro v' w6 hown6 hgrow hnew; obtain ⟨g', off', cap', hv'⟩ := hown6.form (k := (queue1 st k).length) (by simp [ints]); subst hv'; have hb6 : Below w5.heap.size w5 (w5.alloc (.cells #[.int .i64 k] 3)) := (Below.refl _ _).alloc (Nat.le_refl _) _; obtain ⟨q1', q2', q3', q4', -⟩ := (H5.out.below hb6).st.push (x := k) (hb6.on hv1) hown6 hgrow hnew; have H6 := Lib.hid ((H5.out.below hb6).sep q4' (fun x hx => StT.ge (H5.out.below hb6).st hx) q3'); clear q3' q4' hown6 hgrow hnew hb6)
    go_roundw
    case rel =>
     refine ⟨k + 1, by omega, by go_num, ?_⟩
     rw [← met1_add HS.out, ← fr1_add HS.out, queue1_add HS.out]
     exact H6
    case measure => simp [intOf]; omega
   ·have g0 : (ow == 0) = false := by simpa using h0
    have HS : Hid (st k = false) := Lib.hid (by rw [HST.out]; exact decide_eq_false (fun e => h0 (HOW.out.trans e)))
    clear h0
    go_wp2_with fail
    go_roundw
    case rel =>
     refine ⟨k + 1, by omega, by go_num, ?_⟩
     rw [← met1_skip HS.out, ← fr1_skip HS.out, queue1_skip HS.out]
     exact hI
    case measure => simp [intOf]; omega
  ·obtain rfl : k = m.n := by omega
   have HB0 : Hid (DInv m.n (edR m R) (fun k => m.own k = 0) (fun k => m.own k = 1) (met1 st m.n) (fr1 st m.n F0) (fun _ => 0) 1 (queue1 st m.n)) := Lib.hid (DInv.begin (fun k hk => by
    rw [HST.out]
    exact ⟨fun h => of_decide_eq_true h, fun h => decide_eq_true h⟩) (fun k h => by rw [h]; decide))
   have HMU : Hid (unN (unR (met1 st m.n)) m.n ≤ m.n ∧ (queue1 st m.n).length ≤ m.n) := Lib.hid ⟨unN_le (unR (met1 st m.n)) m.n, queue1_length st m.n⟩
   have HSM : Hid (unN (unR (met1 st m.n)) m.n + 1 ≤ 101) := Lib.hid (by have := HMU.out; omega)
   clear HST
   go_wp2_with fail
   go_step3
   have HA : Hid (ReM w B bf bm c m (some ⟨go, oo, none⟩) oc ev sv R q1 bs (met1 st m.n) (fr1 st m.n F0) (queue1 st m.n) (wr.alloc (.cells #[.int .i64 (-1)] 3)) ∧ (wr.alloc (.cells #[.int .i64 (-1)] 3)).cell? ⟨wr.heap.size, 0, none⟩ = some (.int .i64 (-1)) ∧ (wr.alloc (.cells #[.int .i64 (-1)] 3)).frozen? ⟨wr.heap.size, 0, none⟩ = false ∧ StA bs wr.heap.size (wr.heap.size + 1) (wr.alloc (.cells #[.int .i64 (-1)] 3)) ∧ bs < wr.heap.size) := Lib.hid (by
    have hb : Below wr.heap.size wr (wr.alloc (.cells #[.int .i64 (-1)] 3)) := (Below.refl _ wr).alloc (Nat.le_refl _) _
    exact ⟨hI.out.below hb, by simp [go_sem], by simp [go_sem], (hI.out.st.apart _).sep hI.out.st (T := fun _ => False) (Sep.of_below hb) id, hI.out.st.lt⟩)
   generalize wr.alloc (.cells #[.int .i64 (-1)] 3) = wA at HA ⊢
   obtain ⟨bl, hbl⟩ : ∃ x, x = wr.heap.size := ⟨_, rfl⟩
   rw [← hbl] at HA ⊢
   clear hI hbl wr
   go_wp2_with fail
   refine wp_loop_ghost_k (fun mi a' W => ∃ (M : Nat → Bool) (Fr : Nat → Int) (rk : Nat → Nat) (t : Nat) (q : List Nat), FrR q1 bs bl a' ∧ Marks (bs + 1) a'.defers W ∧ Hid (ReM w B bf bm c m (some ⟨go, oo, none⟩) oc ev sv R q1 bs M Fr q W ∧ DInv m.n (edR m R) (fun k => m.own k = 0) (fun k => m.own k = 1) M Fr rk t q ∧ mi = 2 * unN (unR M) m.n + q.length ∧ t + unN (unR M) m.n ≤ 101 ∧ mi ≤ 500 ∧ bs < bl ∧ W.cell? ⟨bl, 0, none⟩ = some (.int .i64 (-1)) ∧ W.frozen? ⟨bl, 0, none⟩ = false ∧ StA bs bl (bl + 1) W)) _
    ⟨_, _, _, _, _, rfl, Marks.nil _ _, Lib.hid ⟨HA.out.1, HB0.out, rfl, by have := HSM.out; omega, by have := HMU.out; omega, HA.out.2.2.2.2, HA.out.2.1, HA.out.2.2.1, HA.out.2.2.2.1⟩⟩ ?_
   clear HA HB0 HMU HSM
   rintro mi a' W ⟨M, Fr, rk, t, q, hfr, hm, hI⟩ J2 K2 hJ2 hK2
   unfold FrR at hfr
   generalize a'.defers = ds at hfr hm
   generalize Lim.sl a' = x at hfr
   subst hfr
   cases q with
   | nil =>
    obtain ⟨sa, sc, d0⟩ := hI.out.1.st.len
    have HI := Lib.hid hI.out
    have d1 := HI.out.2.2.2.2.2.2.1
    clear hI
    go_wp2_with fail
    refine leaves_marks (B := bs + 1) _ hm (fun w' hs => ?_)
    have hO := HI.out.1.steady hs (by omega)
    exact ⟨_, results_one (fn := Try.f76) rfl _ _ rfl, hO.gb, M, Fr, rk, t, [], hO.fl, .inl ⟨rfl, HI.out.2.1⟩⟩
   | cons p q0 =>
    obtain ⟨pg, po, pc, d0, d1, d2, hpc, hpg, hpop⟩ := hI.out.1.st.pop
    have hpM := hI.out.2.1.wait p (by simp)
    have hpn : p < m.n := hI.out.2.1.ins p hpM
    have HPM := Lib.hid hpM
    have hL : q0.length ≤ 500 := by have := hI.out.2.2.2.2.1; have := hI.out.2.2.1; simp at this; omega
    have hrp := run_pop pg po q0.length pc hpc (by omega) (W.alloc (.cells #[.int .i64 p] 3))
    obtain ⟨pa, pl, pk, hpv⟩ : ∃ a n k, popV pg po q0.length pc = .slice a n k := by unfold popV; split <;> exact ⟨_, _, _, rfl⟩
    rw [hpv] at hrp
    have HPOP := Lib.hid (hpop _ (Sep.alloc W (.cells #[.int .i64 p] 3)))
    rw [hpv] at HPOP
    have HBP : Hid ((W.alloc (.cells #[.int .i64 p] 3)).cell? ⟨W.heap.size, 0, none⟩ = some (.int .i64 p)) := Lib.hid (by simp [go_sem])
    obtain ⟨L, hLq⟩ : ∃ L, L = q0.length := ⟨_, rfl⟩
    rw [← hLq] at d0 hrp hpc
    have HLQ := Lib.hid (And.intro hLq (And.intro hpc (And.intro hL hpg)))
    have d4 : (W.alloc (.cells #[.int .i64 p] 3)).cell? ⟨bs, 0, none⟩ = some (.slice (some ⟨pg, po, none⟩) (L + 1) pc) := (Sep.alloc (T := fun _ => False) W _).cell d0 id
    have d5 : (W.alloc (.cells #[.int .i64 p] 3)).frozen? ⟨bs, 0, none⟩ = false := (Sep.alloc (T := fun _ => False) W _).frozen d0 id d1
    clear hpop hpv hpM hLq hL hpc
    go_upto_region 14 with (fail)
    have HM5 : Hid (ReM w B bf bm c m (some ⟨go, oo, none⟩) oc ev sv R q1 bs M Fr q0 ((W.alloc (.cells #[.int .i64 p] 3)).setCell ⟨bs, 0, none⟩ (.slice pa pl pk)) ∧ Marks (bs + 1) ds ((W.alloc (.cells #[.int .i64 p] 3)).setCell ⟨bs, 0, none⟩ (.slice pa pl pk)) ∧ ((W.alloc (.cells #[.int .i64 p] 3)).setCell ⟨bs, 0, none⟩ (.slice pa pl pk)).cell? ⟨W.heap.size, 0, none⟩ = some (.int .i64 p) ∧ bs < W.heap.size ∧ bl < W.heap.size ∧ ((W.alloc (.cells #[.int .i64 p] 3)).setCell ⟨bs, 0, none⟩ (.slice pa pl pk)).cell? ⟨bl, 0, none⟩ = some (.int .i64 (-1)) ∧ ((W.alloc (.cells #[.int .i64 p] 3)).setCell ⟨bs, 0, none⟩ (.slice pa pl pk)).frozen? ⟨bl, 0, none⟩ = false ∧ StA bs bl (bl + 1) ((W.alloc (.cells #[.int .i64 p] 3)).setCell ⟨bs, 0, none⟩ (.slice pa pl pk)) ∧ (∀ X, StA bs W.heap.size X ((W.alloc (.cells #[.int .i64 p] 3)).setCell ⟨bs, 0, none⟩ (.slice pa pl pk))) ∧ W.heap.size < ((W.alloc (.cells #[.int .i64 p] 3)).setCell ⟨bs, 0, none⟩ (.slice pa pl pk)).heap.size) := by
     obtain ⟨i1, i2, i3, i4, i5, i6, i7, i8, i9⟩ := hI.out
     have hbs := i1.st.lt
     have hs : Sep (fun k => k = bs) W ((W.alloc (.cells #[.int .i64 p] 3)).setCell ⟨bs, 0, none⟩ (.slice pa pl pk)) := (Sep.alloc W _).trans (Sep.set _ bs 0 _)
     exact Lib.hid ⟨i1.sep hs (fun x hx => by rw [hx]; exact Nat.le_refl _) HPOP.out.1, hm.keep (hs.keeps (fun k o h1 h2 => StT.cells i1.st k o (.inl h1) h2)), (setCell_far _ _ (by omega)).trans HBP.out, hbs, World.block_lt_of_cell? _ _ i7, hs.cell i7 (by omega), hs.frozen i7 (by omega) i8, i9.sub HPOP.out.2 i6, fun X => (i1.st.apart X).sub HPOP.out.2 hbs, by simp [World.setCell]⟩
    have HBL := Lib.hid hI.out.2.2.2.2.2.1
    have HB5 := Lib.hid (And.intro hI.out.2.1 (And.intro hI.out.2.2.1 (And.intro hI.out.2.2.2.1 hI.out.2.2.2.2.1)))
    clear hI hm d0 d1 d2 d4 d5 hrp HPOP HBP HLQ
    generalize (W.alloc (.cells #[.int .i64 p] 3)).setCell ⟨bs, 0, none⟩ (.slice pa pl pk) = w6 at HM5 ⊢
    obtain ⟨bp, hbp⟩ : ∃ x, x = W.heap.size := ⟨_, rfl⟩
    rw [← hbp] at HM5 ⊢
    clear hbp hpg
    have hC : (fun W => W.cell? ⟨q1, 0, none⟩ = some (.pointer (some ⟨bf, 0, none⟩)) ∧ W.cell? ⟨bf, 0, none⟩ = some (.int .i64 m.wd) ∧ W.cell? ⟨bf, 1, none⟩ = some (.slice (some ⟨go, oo, none⟩) m.n oc) ∧ W.cell? ⟨bf, 2, none⟩ = some ev ∧ W.cell? ⟨bf, 3, none⟩ = some sv ∧ W.cell? ⟨bp, 0, none⟩ = some (.int .i64 p)) w6.drew := ⟨HM5.out.1.c1, HM5.out.1.fl.ld.f0, HM5.out.1.fl.ld.f1, HM5.out.1.fl.ld.f2, HM5.out.1.fl.ld.f3, HM5.out.2.2.1⟩
    refine Lim.regC' (fun W => W.cell? ⟨q1, 0, none⟩ = some (.pointer (some ⟨bf, 0, none⟩)) ∧ W.cell? ⟨bf, 0, none⟩ = some (.int .i64 m.wd) ∧ W.cell? ⟨bf, 1, none⟩ = some (.slice (some ⟨go, oo, none⟩) m.n oc) ∧ W.cell? ⟨bf, 2, none⟩ = some ev ∧ W.cell? ⟨bf, 3, none⟩ = some sv ∧ W.cell? ⟨bp, 0, none⟩ = some (.int .i64 p)) [] #[false, false, false, false, false, false, false] (by kernel_rfl) rfl ?_
    refine Lim.stepR 0 (fun _ => trivial) rfl (by kernel_rfl) (fun _ _ _ _ h => h) hC rfl ?_; apply Exists.intro; refine ⟨?_, ?_⟩
    ·rintro w ⟨r1, r2, r3, r4, r5, r6⟩; go_simp; try with_reducible rfl
    simp only [Act.put, List.setIfInBounds_toArray, List.set_cons_succ, List.set_cons_zero]
    refine Lim.stepR 1 (fun _ => trivial) rfl (by kernel_rfl) (fun _ _ _ _ h => h) hC rfl ?_; apply Exists.intro; refine ⟨?_, ?_⟩
    ·rintro w ⟨r1, r2, r3, r4, r5, r6⟩; go_simp; try with_reducible rfl
    simp only [Act.put, List.setIfInBounds_toArray, List.set_cons_succ, List.set_cons_zero]
    refine Lim.stepR 2 (fun _ => trivial) rfl (by kernel_rfl) (fun _ _ _ _ h => h) hC rfl ?_; apply Exists.intro; refine ⟨?_, ?_⟩
    ·rintro w ⟨r1, r2, r3, r4, r5, r6⟩; go_simp; try with_reducible rfl
    simp only [Act.put, List.setIfInBounds_toArray, List.set_cons_succ, List.set_cons_zero]
    refine Lim.stepR 3 (fun _ => trivial) rfl (by kernel_rfl) (fun _ _ _ _ h => h) hC rfl ?_; apply Exists.intro; refine ⟨?_, ?_⟩
    ·rintro w ⟨r1, r2, r3, r4, r5, r6⟩; go_simp; try with_reducible rfl
    simp only [Act.put, List.setIfInBounds_toArray, List.set_cons_succ, List.set_cons_zero]
    refine Lim.stepR 5 (fun _ => trivial) rfl (by kernel_rfl) (fun _ _ _ _ h => h) hC rfl ?_; apply Exists.intro; refine ⟨?_, ?_⟩
    ·rintro w ⟨r1, r2, r3, r4, r5, r6⟩; go_simp; try with_reducible rfl
    simp only [Act.put, List.setIfInBounds_toArray, List.set_cons_succ, List.set_cons_zero]
    refine Lim.stepE 4 (fun _ => trivial) rfl (by kernel_rfl) rfl (fun K hK => ?_)   -- E call
    go_simp
    refine ⟨rfl, (callsIn_wide.2 plan_any).mono ?_⟩
    rintro e w7 ⟨rfl, hb7⟩
    have hC7 : (fun W => W.cell? ⟨q1, 0, none⟩ = some (.pointer (some ⟨bf, 0, none⟩)) ∧ W.cell? ⟨bf, 0, none⟩ = some (.int .i64 m.wd) ∧ W.cell? ⟨bf, 1, none⟩ = some (.slice (some ⟨go, oo, none⟩) m.n oc) ∧ W.cell? ⟨bf, 2, none⟩ = some ev ∧ W.cell? ⟨bf, 3, none⟩ = some sv ∧ W.cell? ⟨bp, 0, none⟩ = some (.int .i64 p)) w7 := ⟨hb7.on hC.1, hb7.on hC.2.1, hb7.on hC.2.2.1, hb7.on hC.2.2.2.1, hb7.on hC.2.2.2.2.1, hb7.on hC.2.2.2.2.2⟩
    refine hK _ _ hC7 ?_
    simp only [Act.put, List.setIfInBounds_toArray, List.set_cons_succ, List.set_cons_zero]
    refine Lim.stepE 6 (fun _ => trivial) rfl (by kernel_rfl) rfl (fun K hK => ?_)   -- E call
    go_simp
    refine ⟨rfl, (callsIn_wide.2 (neighbours_any _ _ _ _ ⟨_, _, _, rfl⟩)).mono ?_⟩
    rintro e w8 ⟨rfl, rfl⟩
    have hB8 := nbrW_below w7 #[.int .i64 m.wd, .slice (some ⟨go, oo, none⟩) m.n oc] (.int .i64 p) 24 3
    have HN8 := Lib.hid (Ne.made (wd := m.wd) (N := m.n) (cap := oc) (c := p) (ha := some ⟨go, oo, none⟩) w7)
    have hC8 : (fun W => W.cell? ⟨q1, 0, none⟩ = some (.pointer (some ⟨bf, 0, none⟩)) ∧ W.cell? ⟨bf, 0, none⟩ = some (.int .i64 m.wd) ∧ W.cell? ⟨bf, 1, none⟩ = some (.slice (some ⟨go, oo, none⟩) m.n oc) ∧ W.cell? ⟨bf, 2, none⟩ = some ev ∧ W.cell? ⟨bf, 3, none⟩ = some sv ∧ W.cell? ⟨bp, 0, none⟩ = some (.int .i64 p)) ((w7.alloc (.cells #[.int .i64 m.wd, .slice (some ⟨go, oo, none⟩) m.n oc] 24)).alloc (.cells #[.int .i64 p] 3)) := ⟨hB8.on hC7.1, hB8.on hC7.2.1, hB8.on hC7.2.2.1, hB8.on hC7.2.2.2.1, hB8.on hC7.2.2.2.2.1, hB8.on hC7.2.2.2.2.2⟩
    refine hK _ _ hC8 ?_
    simp only [Act.put, List.setIfInBounds_toArray, List.set_cons_succ, List.set_cons_zero]
    refine Lim.stepD (by kernel_rfl) ?_
    have hb6 : Below w6.heap.size w6 w7 := ((Below.refl _ w6).drew).trans hb7
    have hs68 : Sep (fun _ => False) w6 ((w7.alloc (.cells #[.int .i64 m.wd, .slice (some ⟨go, oo, none⟩) m.n oc] 24)).alloc (.cells #[.int .i64 p] 3)) := (Sep.of_below hb6).trans (Sep.of_below hB8)
    have HM8 : Hid (ReM w B bf bm c m (some ⟨go, oo, none⟩) oc ev sv R q1 bs M Fr q0 ((w7.alloc (.cells #[.int .i64 m.wd, .slice (some ⟨go, oo, none⟩) m.n oc] 24)).alloc (.cells #[.int .i64 p] 3)) ∧ Marks (bs + 1) ds ((w7.alloc (.cells #[.int .i64 m.wd, .slice (some ⟨go, oo, none⟩) m.n oc] 24)).alloc (.cells #[.int .i64 p] 3)) ∧ StA bs bp (w7.heap.size + 2) ((w7.alloc (.cells #[.int .i64 m.wd, .slice (some ⟨go, oo, none⟩) m.n oc] 24)).alloc (.cells #[.int .i64 p] 3)) ∧ (((w7.alloc (.cells #[.int .i64 m.wd, .slice (some ⟨go, oo, none⟩) m.n oc] 24)).alloc (.cells #[.int .i64 p] 3)).cell? ⟨bp, 0, none⟩ = some (.int .i64 p) ∧ ((w7.alloc (.cells #[.int .i64 m.wd, .slice (some ⟨go, oo, none⟩) m.n oc] 24)).alloc (.cells #[.int .i64 p] 3)).cell? ⟨bl, 0, none⟩ = some (.int .i64 (-1)) ∧ ((w7.alloc (.cells #[.int .i64 m.wd, .slice (some ⟨go, oo, none⟩) m.n oc] 24)).alloc (.cells #[.int .i64 p] 3)).frozen? ⟨bl, 0, none⟩ = false ∧ StA bs bl (bl + 1) ((w7.alloc (.cells #[.int .i64 m.wd, .slice (some ⟨go, oo, none⟩) m.n oc] 24)).alloc (.cells #[.int .i64 p] 3))) ∧ (bs < bl ∧ bs < bp ∧ bl < bp ∧ bp < w7.heap.size ∧ w7.heap.size + 2 ≤ ((w7.alloc (.cells #[.int .i64 m.wd, .slice (some ⟨go, oo, none⟩) m.n oc] 24)).alloc (.cells #[.int .i64 p] 3)).heap.size)) := by
     obtain ⟨i1, i2, i3, i4, i5, i6, i7, i8, i9, i10⟩ := HM5.out
     exact Lib.hid ⟨(i1.below hb6).below hB8, i2.keep (hs68.keeps (fun _ _ h _ => h.elim)), (i9 _).sep i1.st hs68 id, ⟨hs68.cell i3 id, hs68.cell i6 id, hs68.frozen i6 id i7, i8.sep i1.st hs68 id⟩, ⟨HBL.out, i4, i5, by have := hb6.size; omega, by simp⟩⟩
    generalize (w7.alloc (.cells #[.int .i64 m.wd, .slice (some ⟨go, oo, none⟩) m.n oc] 24)).alloc (.cells #[.int .i64 p] 3) = w8 at HN8 HM8 ⊢
    clear hC hC7 hC8 hB8 hs68 hb6 hb7 HM5
    obtain ⟨bq, hbq⟩ : ∃ x, x = w7.heap.size := ⟨_, rfl⟩
    rw [← hbq] at HN8 HM8 ⊢
    clear hbq w7
    go_wp2_with fail
    have HJ := Lib.hid (And.intro hJ2 hK2)
    clear hJ2 hK2
    refine wp_range (xs := nbrL m.wd m.n p) rfl (enters_of Try.func100 (by kernel_rfl) rfl) (Ne bq (bq + 1) m.wd m.n oc p (some ⟨go, oo, none⟩))
     (nbr_iter HM.out.w0 (Nat.le_trans HM.out.wn HM.out.n1) hn (by omega) HN8.out)
     (fun pre W' => ∃ (M' : Nat → Bool) (Fr' : Nat → Int) (rk' : Nat → Nat) (t' : Nat) (q' : List Nat), Hid (DMid m.n (edR m R) (fun k => m.own k = 0) (fun k => m.own k = 1) M' Fr' rk' t' q' p pre ∧ 2 * unN (unR M') m.n + q'.length < mi ∧ t' + unN (unR M') m.n ≤ 101) ∧ Hid (ReM w B bf bm c m (some ⟨go, oo, none⟩) oc ev sv R q1 bs M' Fr' q' W') ∧ Hid (MarksLt (bs + 1) w8.heap.size ds W') ∧ Hid (StA bs bp (bq + 2) W') ∧ Hid (W'.cell? ⟨bp, 0, none⟩ = some (.int .i64 p) ∧ W'.cell? ⟨bl, 0, none⟩ = some (.int .i64 (-1)) ∧ W'.frozen? ⟨bl, 0, none⟩ = false ∧ StA bs bl (bl + 1) W') ∧ Ne bq (bq + 1) m.wd m.n oc p (some ⟨go, oo, none⟩) W')
     (fun cd _ W' => cd = .exit 2 ∧ ∃ (M' : Nat → Bool) (Fr' : Nat → Int) (rk' : Nat → Nat) (t' : Nat) (q' : List Nat) (last : Nat), Hid (DBase m.n (edR m R) (fun k => m.own k = 0) M' Fr' rk' t' q' ∧ M' last = true ∧ m.own last = 1 ∧ t' ≤ 101) ∧ Hid (ReM w B bf bm c m (some ⟨go, oo, none⟩) oc ev sv R q1 bs M' Fr' q' W') ∧ Hid (MarksLt (bs + 1) w8.heap.size ds W') ∧ Hid (W'.cell? ⟨bl, 0, none⟩ = some (.int .i64 last)))
     (fun _ _ h => by obtain ⟨_, _, _, _, _, _, _, _, _, _, h⟩ := h; exact h) (fun _ _ h hs => h.steady hs) ?sI ?sX
     ⟨M, Fr, rk, t, q0, Lib.hid ⟨HB5.out.1.take, by have := HB5.out.2.1; simp at this; omega, HB5.out.2.2.1⟩, Lib.hid HM8.out.1, Lib.hid (MarksLt.of_marks HM8.out.2.1), Lib.hid HM8.out.2.2.1, Lib.hid HM8.out.2.2.2.1, HN8.out⟩ ?a1 ?assign ?body ?done ?stop
    case sI =>
     rintro _ _ _ ⟨M', Fr', rk', t', q', h1, h2, h3, h4, h5, h6⟩ hs
     have hle := HM8.out.2.2.2.2
     have hlt := HM8.out.1.st.lt
     exact ⟨M', Fr', rk', t', q', h1, Lib.hid (h2.out.steady hs (by omega)), Lib.hid (h3.out.steady hs), Lib.hid (h4.out.steady h2.out.st hs), Lib.hid ⟨hs.cell h5.out.1, hs.cell h5.out.2.1, (hs.frozen h5.out.2.1).trans h5.out.2.2.1, h5.out.2.2.2.steady h2.out.st hs⟩, h6.steady hs⟩
    case sX =>
     rintro _ _ _ _ ⟨hc, M', Fr', rk', t', q', last, h1, h2, h3, h4⟩ hs
     have hlt := HM8.out.1.st.lt
     exact ⟨hc, M', Fr', rk', t', q', last, h1, Lib.hid (h2.out.steady hs (by omega)), Lib.hid (h3.out.steady hs), Lib.hid (hs.cell h4.out)⟩
    case a1 => exact fun z => { tmps := #[x 0, .pointer (some ⟨q1, 0, none⟩), x 2, .pointer (some ⟨bs, 0, none⟩), x 4, x 5, .pointer (some ⟨bl, 0, none⟩), .pointer (some ⟨bp, 0, none⟩), .int .i64 z, x 9, x 10, x 11, x 12, x 13, x 14, x 15, x 16, x 17, x 18, x 19, x 20, x 21, x 22, x 23, x 24, x 25, x 26, x 27, x 28, x 29, x 30, x 31, x 32, x 33, x 34, x 35, x 36, x 37, x 38, x 39, x 40, .slice (some ⟨pg, po, none⟩) (L + 1) pc, .int .i64 ((L : Int) + 1), .bool true, .slice (some ⟨pg, po, none⟩) (L + 1) pc, .pointer (some ⟨pg, po, none⟩), .int .i64 p, .slice (some ⟨pg, po, none⟩) (L + 1) pc, .slice pa pl pk, .pointer (some ⟨bf, 0, none⟩), .pointer (some ⟨bf, 0, none⟩), .pointer (some ⟨bf, 0, none⟩), .agg #[.int .i64 m.wd, .slice (some ⟨go, oo, none⟩) m.n oc, ev, sv], .agg #[.int .i64 m.wd, .slice (some ⟨go, oo, none⟩) m.n oc], .int .i64 p, .func (.func 100) #[] #[.pointer (some ⟨bq + 1, 0, none⟩), .pointer (some ⟨bq, 0, none⟩)], .int .i64 z, x 57, x 58, x 59, x 60, x 61, x 62, x 63, x 64, x 65, x 66, x 67, x 68, x 69, x 70, x 71, x 72, x 73, x 74, x 75, x 76, x 77, x 78, x 79, x 80, x 81, x 82, x 83, x 84, x 85, x 86, x 87, x 88, x 89, x 90, x 91, x 92, x 93, x 94, x 95, x 96, x 97, x 98, x 99], defers := [] }
    case assign =>
     intro l z W' K hK
     gi_wp2
     exact hK
    case stop =>
     rintro D cd pre W' hD hpre ⟨rfl, M', Fr', rk', t', q', last, h1, h2, h3, h4⟩ hk
     have e1 := h4.out
     have hl8 := HM8.out.2.2.2.2
     clear HJ
     go_wp2_with fail
     refine leaves_marks (B := bs + 1) _ (h3.out.cons (by omega) hD hk) (fun w' hs => ?_)
     have hO := h2.out.steady hs (by omega)
     exact ⟨_, results_one (fn := Try.f76) rfl _ _ rfl, hO.gb, M', Fr', rk', t', q', hO.fl, .inr ⟨last, rfl, h1.out.2.1, h1.out.2.2.1, h1.out.2.2.2, h1.out.1⟩⟩
    case done =>
     rintro D W' hD ⟨M', Fr', rk', t', q', h1, h2, h3, h4, h5, h6⟩ hk
     refine HJ.out.2 _ _ ?_
     exact .intro _ h1.out.2.1 (HJ.out.1 _ _ _ ⟨M', Fr', rk', t', q', by unfold FrR; rfl, h3.out.cons (by have := HM8.out.2.2.2.2; omega) hD hk, Lib.hid ⟨h2.out, h1.out.1.done (fun j _ he => he.1), rfl, h1.out.2.2, by have := h1.out.2.1; have := HB5.out.2.2.2; omega, HM8.out.2.2.2.2.1, h5.out.2.1, h5.out.2.2.1, h5.out.2.2.2⟩⟩)
    case body =>
     rintro l pre z W' hx ⟨M', Fr', rk', t', q', h1, h2, h3, h4, h5, h6⟩
     obtain ⟨y, rfl, hyn⟩ := mem_nbrL HM.out.w0 HM.out.dv hpn hx
     have HNB : Hid (nb m p y) := Lib.hid hx
     have hy64 : (y : Int) < 100 := by omega
     have hp64 : (p : Int) < 100 := by omega
     have hlk := h2.out.fl.rm.lookup (x := p) (y := y) (by omega) (by omega)
     obtain ⟨x0, hx0⟩ : ∃ x0, x0 = (R p y).getD 0 := ⟨_, rfl⟩
     rw [← hx0] at hlk
     obtain ⟨mu, hmu⟩ : ∃ mu, mu = M' y := ⟨_, rfl⟩
     have hmet := (h2.out.fl.met y (by omega)).1
     rw [← hmu] at hmet
     have HR0 := Lib.hid hx0
     have HMU := Lib.hid hmu
     have hlk' : (Instr.lookup 106 (.map (some bm)) (.agg #[.int .i64 p, .int .i64 y]) false).run Try.prog W'.drew = .ok (.int .i64 x0) W'.drew := (by
      have h := ((h2.out.below (Below.refl _ W').drew).fl.rm.lookup (x := p) (y := y) (by omega) (by omega))
      rw [hx0]; exact h)
     have hC : (fun W => W.cell? ⟨q1, 0, none⟩ = some (.pointer (some ⟨bf, 0, none⟩)) ∧ W.cell? ⟨bf, 5 + y, none⟩ = some (.bool mu) ∧ W.cell? ⟨bf, 4, none⟩ = some (.map (some bm)) ∧ W.cell? ⟨bp, 0, none⟩ = some (.int .i64 p) ∧ (Instr.lookup 106 (.map (some bm)) (.agg #[.int .i64 p, .int .i64 y]) false).run Try.prog W = .ok (.int .i64 x0) W) W'.drew := ⟨h2.out.c1, hmet, h2.out.fl.c4.1, h5.out.1, hlk'⟩
     clear hx hx0 hmu hlk hlk' hmet
     refine wpIn_block ?_
     gi_wp2_with fail
     cases mu with
     | true =>
      refine Lim.regC (fun W => W.cell? ⟨q1, 0, none⟩ = some (.pointer (some ⟨bf, 0, none⟩)) ∧ W.cell? ⟨bf, 5 + y, none⟩ = some (.bool true) ∧ W.cell? ⟨bf, 4, none⟩ = some (.map (some bm)) ∧ W.cell? ⟨bp, 0, none⟩ = some (.int .i64 p) ∧ (Instr.lookup 106 (.map (some bm)) (.agg #[.int .i64 p, .int .i64 y]) false).run Try.prog W = .ok (.int .i64 x0) W) [] #[false, false, false, false, false, false, false, false, false, false, false, false, false, false, false, false, false] (by kernel_rfl) rfl ?_
      refine Lim.stepR 0 (fun _ => trivial) rfl (by kernel_rfl) (fun _ _ _ _ h => h) hC rfl ?_; apply Exists.intro; refine ⟨?_, ?_⟩
      ·rintro w ⟨r1, r2, r3, r4, r5⟩; go_simp; try with_reducible rfl
      simp only [Act.put, List.setIfInBounds_toArray, List.set_cons_succ, List.set_cons_zero]
      refine Lim.stepR 1 (fun _ => trivial) rfl (by kernel_rfl) (fun _ _ _ _ h => h) hC rfl ?_; apply Exists.intro; refine ⟨?_, ?_⟩
      ·rintro w ⟨r1, r2, r3, r4, r5⟩; go_simp; try with_reducible rfl
      simp only [Act.put, List.setIfInBounds_toArray, List.set_cons_succ, List.set_cons_zero]
      refine Lim.stepR 2 (fun _ => trivial) rfl (by kernel_rfl) (fun _ _ _ _ h => h) hC rfl ?_; apply Exists.intro; refine ⟨?_, ?_⟩
      ·rintro w ⟨r1, r2, r3, r4, r5⟩; go_simp; try with_reducible rfl
      simp only [Act.put, List.setIfInBounds_toArray, List.set_cons_succ, List.set_cons_zero]
      refine Lim.stepR 3 (fun _ => trivial) rfl (by kernel_rfl) (fun _ _ _ _ h => h) hC rfl ?_; apply Exists.intro; refine ⟨?_, ?_⟩
      ·rintro w ⟨r1, r2, r3, r4, r5⟩; go_simp; try with_reducible rfl
      simp only [Act.put, List.setIfInBounds_toArray, List.set_cons_succ, List.set_cons_zero]
      refine Lim.stepR 4 (fun _ => trivial) rfl (by kernel_rfl) (fun _ _ _ _ h => h) hC rfl ?_; apply Exists.intro; refine ⟨?_, ?_⟩
      ·rintro w ⟨r1, r2, r3, r4, r5⟩; go_simp; try with_reducible rfl
      simp only [Act.put, List.setIfInBounds_toArray, List.set_cons_succ, List.set_cons_zero]
      refine Lim.stepR 5 (fun _ => trivial) rfl (by kernel_rfl) (fun _ _ _ _ h => h) hC rfl ?_; apply Exists.intro; refine ⟨?_, ?_⟩
      ·rintro w ⟨r1, r2, r3, r4, r5⟩; go_simp; try with_reducible rfl
      simp only [Act.put, List.setIfInBounds_toArray, List.set_cons_succ, List.set_cons_zero]
      refine Lim.stepR 6 (fun _ => trivial) rfl (by kernel_rfl) (fun _ _ _ _ h => h) hC rfl ?_; apply Exists.intro; refine ⟨?_, ?_⟩
      ·rintro w ⟨r1, r2, r3, r4, r5⟩; go_simp; try with_reducible rfl
      simp only [Act.put, List.setIfInBounds_toArray, List.set_cons_succ, List.set_cons_zero]
      refine Lim.stepS 7 (fun _ => trivial) rfl (by kernel_rfl) (fun _ _ _ _ h => h) hC rfl ?_
      simp only [Act.put, List.setIfInBounds_toArray, List.set_cons_succ, List.set_cons_zero]
      refine Lim.stepS 8 (fun _ => trivial) rfl (by kernel_rfl) (fun _ _ _ _ h => h) hC rfl ?_
      simp only [Act.put, List.setIfInBounds_toArray, List.set_cons_succ, List.set_cons_zero]
      refine Lim.stepS 9 (fun _ => trivial) rfl (by kernel_rfl) (fun _ _ _ _ h => h) hC rfl ?_
      simp only [Act.put, List.setIfInBounds_toArray, List.set_cons_succ, List.set_cons_zero]
      refine Lim.stepS 10 (fun _ => trivial) rfl (by kernel_rfl) (fun _ _ _ _ h => h) hC rfl ?_
      simp only [Act.put, List.setIfInBounds_toArray, List.set_cons_succ, List.set_cons_zero]
      refine Lim.stepS 11 (fun _ => trivial) rfl (by kernel_rfl) (fun _ _ _ _ h => h) hC rfl ?_
      simp only [Act.put, List.setIfInBounds_toArray, List.set_cons_succ, List.set_cons_zero]
      refine Lim.stepS 12 (fun _ => trivial) rfl (by kernel_rfl) (fun _ _ _ _ h => h) hC rfl ?_
      simp only [Act.put, List.setIfInBounds_toArray, List.set_cons_succ, List.set_cons_zero]
      refine Lim.stepS 13 (fun _ => trivial) rfl (by kernel_rfl) (fun _ _ _ _ h => h) hC rfl ?_
      simp only [Act.put, List.setIfInBounds_toArray, List.set_cons_succ, List.set_cons_zero]
      refine Lim.stepS 14 (fun _ => trivial) rfl (by kernel_rfl) (fun _ _ _ _ h => h) hC rfl ?_
      simp only [Act.put, List.setIfInBounds_toArray, List.set_cons_succ, List.set_cons_zero]
      refine Lim.stepS 15 (fun _ => trivial) rfl (by kernel_rfl) (fun _ _ _ _ h => h) hC rfl ?_
      simp only [Act.put, List.setIfInBounds_toArray, List.set_cons_succ, List.set_cons_zero]
      refine Lim.stepR 16 (fun _ => trivial) rfl (by kernel_rfl) (fun _ _ _ _ h => h) hC rfl ?_; apply Exists.intro; refine ⟨?_, ?_⟩
      ·rintro w ⟨r1, r2, r3, r4, r5⟩; go_simp; try with_reducible rfl
      simp only [Act.put, List.setIfInBounds_toArray, List.set_cons_succ, List.set_cons_zero]
      refine Lim.stepD (by kernel_rfl) ?_
      clear hC
      have HK2 : Hid (KeepsOthers W' W'.drew ∧ ReM w B bf bm c m (some ⟨go, oo, none⟩) oc ev sv R q1 bs M' Fr' q' W'.drew ∧ MarksLt (bs + 1) w8.heap.size ds W'.drew ∧ StA bs bp (bq + 2) W'.drew ∧ (W'.drew.cell? ⟨bp, 0, none⟩ = some (.int .i64 p) ∧ W'.drew.cell? ⟨bl, 0, none⟩ = some (.int .i64 (-1)) ∧ W'.drew.frozen? ⟨bl, 0, none⟩ = false ∧ StA bs bl (bl + 1) W'.drew) ∧ Ne bq (bq + 1) m.wd m.n oc p (some ⟨go, oo, none⟩) W'.drew) :=
       Lib.hid ⟨KeepsOthers.drew W', h2.out.below (Below.refl _ W').drew, h3.out.keeps (KeepsOthers.drew W'), h4.out.sep h2.out.st (T := fun _ => False) (Sep.drew W') id, ⟨h5.out.1, h5.out.2.1, h5.out.2.2.1, h5.out.2.2.2.sep h2.out.st (T := fun _ => False) (Sep.drew W') id⟩, h6.below (Below.refl _ W').drew⟩
      gi_wp2_with fail
      exact ⟨HK2.out.1.from _, M', Fr', rk', t', q', Lib.hid ⟨h1.out.1.skip (fun _ => HMU.out.symm), h1.out.2⟩, Lib.hid HK2.out.2.1, Lib.hid HK2.out.2.2.1, Lib.hid HK2.out.2.2.2.1, Lib.hid HK2.out.2.2.2.2.1, HK2.out.2.2.2.2.2⟩
     | false =>
      by_cases hz : x0 = 0
      ·have g0 : (x0 == 0) = true := by simp [hz]
       refine Lim.regC (fun W => W.cell? ⟨q1, 0, none⟩ = some (.pointer (some ⟨bf, 0, none⟩)) ∧ W.cell? ⟨bf, 5 + y, none⟩ = some (.bool false) ∧ W.cell? ⟨bf, 4, none⟩ = some (.map (some bm)) ∧ W.cell? ⟨bp, 0, none⟩ = some (.int .i64 p) ∧ (Instr.lookup 106 (.map (some bm)) (.agg #[.int .i64 p, .int .i64 y]) false).run Try.prog W = .ok (.int .i64 x0) W) [] #[false, false, false, false, false, false, false, false, false, false, false, false, false, false, false, false, false] (by kernel_rfl) rfl ?_
       refine Lim.stepR 0 (fun _ => trivial) rfl (by kernel_rfl) (fun _ _ _ _ h => h) hC rfl ?_; apply Exists.intro; refine ⟨?_, ?_⟩
       ·rintro w ⟨r1, r2, r3, r4, r5⟩; go_simp; try with_reducible rfl
       simp only [Act.put, List.setIfInBounds_toArray, List.set_cons_succ, List.set_cons_zero]
       refine Lim.stepR 1 (fun _ => trivial) rfl (by kernel_rfl) (fun _ _ _ _ h => h) hC rfl ?_; apply Exists.intro; refine ⟨?_, ?_⟩
       ·rintro w ⟨r1, r2, r3, r4, r5⟩; go_simp; try with_reducible rfl
       simp only [Act.put, List.setIfInBounds_toArray, List.set_cons_succ, List.set_cons_zero]
       refine Lim.stepR 2 (fun _ => trivial) rfl (by kernel_rfl) (fun _ _ _ _ h => h) hC rfl ?_; apply Exists.intro; refine ⟨?_, ?_⟩
       ·rintro w ⟨r1, r2, r3, r4, r5⟩; go_simp; try with_reducible rfl
       simp only [Act.put, List.setIfInBounds_toArray, List.set_cons_succ, List.set_cons_zero]
       refine Lim.stepR 3 (fun _ => trivial) rfl (by kernel_rfl) (fun _ _ _ _ h => h) hC rfl ?_; apply Exists.intro; refine ⟨?_, ?_⟩
       ·rintro w ⟨r1, r2, r3, r4, r5⟩; go_simp; try with_reducible rfl
       simp only [Act.put, List.setIfInBounds_toArray, List.set_cons_succ, List.set_cons_zero]
       refine Lim.stepR 4 (fun _ => trivial) rfl (by kernel_rfl) (fun _ _ _ _ h => h) hC rfl ?_; apply Exists.intro; refine ⟨?_, ?_⟩
       ·rintro w ⟨r1, r2, r3, r4, r5⟩; go_simp; try with_reducible rfl
       simp only [Act.put, List.setIfInBounds_toArray, List.set_cons_succ, List.set_cons_zero]
       refine Lim.stepR 5 (fun _ => trivial) rfl (by kernel_rfl) (fun _ _ _ _ h => h) hC rfl ?_; apply Exists.intro; refine ⟨?_, ?_⟩
       ·rintro w ⟨r1, r2, r3, r4, r5⟩; go_simp; try with_reducible rfl
       simp only [Act.put, List.setIfInBounds_toArray, List.set_cons_succ, List.set_cons_zero]
       refine Lim.stepR 6 (fun _ => trivial) rfl (by kernel_rfl) (fun _ _ _ _ h => h) hC rfl ?_; apply Exists.intro; refine ⟨?_, ?_⟩
       ·rintro w ⟨r1, r2, r3, r4, r5⟩; go_simp; try with_reducible rfl
       simp only [Act.put, List.setIfInBounds_toArray, List.set_cons_succ, List.set_cons_zero]
       refine Lim.stepR 7 (fun _ => trivial) rfl (by kernel_rfl) (fun _ _ _ _ h => h) hC rfl ?_; apply Exists.intro; refine ⟨?_, ?_⟩
       ·rintro w ⟨r1, r2, r3, r4, r5⟩; go_simp; try with_reducible rfl
       simp only [Act.put, List.setIfInBounds_toArray, List.set_cons_succ, List.set_cons_zero]
       refine Lim.stepR 8 (fun _ => trivial) rfl (by kernel_rfl) (fun _ _ _ _ h => h) hC rfl ?_; apply Exists.intro; refine ⟨?_, ?_⟩
       ·rintro w ⟨r1, r2, r3, r4, r5⟩; go_simp; try with_reducible rfl
       simp only [Act.put, List.setIfInBounds_toArray, List.set_cons_succ, List.set_cons_zero]
       refine Lim.stepR 9 (fun _ => trivial) rfl (by kernel_rfl) (fun _ _ _ _ h => h) hC rfl ?_; apply Exists.intro; refine ⟨?_, ?_⟩
       ·rintro w ⟨r1, r2, r3, r4, r5⟩; go_simp; try with_reducible rfl
       simp only [Act.put, List.setIfInBounds_toArray, List.set_cons_succ, List.set_cons_zero]
       refine Lim.stepR 10 (fun _ => trivial) rfl (by kernel_rfl) (fun _ _ _ _ h => h) hC rfl ?_; apply Exists.intro; refine ⟨?_, ?_⟩
       ·rintro w ⟨r1, r2, r3, r4, r5⟩; go_simp; try with_reducible rfl
       simp only [Act.put, List.setIfInBounds_toArray, List.set_cons_succ, List.set_cons_zero]
       refine Lim.stepR 11 (fun _ => trivial) rfl (by kernel_rfl) (fun _ _ _ _ h => h) hC rfl ?_; apply Exists.intro; refine ⟨?_, ?_⟩
       ·rintro w ⟨r1, r2, r3, r4, r5⟩; go_simp; try with_reducible rfl
       simp only [Act.put, List.setIfInBounds_toArray, List.set_cons_succ, List.set_cons_zero]
       refine Lim.stepR 12 (fun _ => trivial) rfl (by kernel_rfl) (fun _ _ _ _ h => h) hC rfl ?_; apply Exists.intro; refine ⟨?_, ?_⟩
       ·rintro w ⟨r1, r2, r3, r4, r5⟩; go_simp; try with_reducible rfl
       simp only [Act.put, List.setIfInBounds_toArray, List.set_cons_succ, List.set_cons_zero]
       refine Lim.stepR 13 (fun _ => trivial) rfl (by kernel_rfl) (fun _ _ _ _ h => h) hC rfl ?_; apply Exists.intro; refine ⟨?_, ?_⟩
       ·rintro w ⟨r1, r2, r3, r4, r5⟩; go_simp; try with_reducible rfl
       simp only [Act.put, List.setIfInBounds_toArray, List.set_cons_succ, List.set_cons_zero]
       refine Lim.stepR 14 (fun _ => trivial) rfl (by kernel_rfl) (fun _ _ _ _ h => h) hC rfl ?_; apply Exists.intro; refine ⟨?_, ?_⟩
       ·rintro w ⟨r1, r2, r3, r4, r5⟩; go_simp; try with_reducible rfl
       simp only [Act.put, List.setIfInBounds_toArray, List.set_cons_succ, List.set_cons_zero]
       refine Lim.stepR 15 (fun _ => trivial) rfl (by kernel_rfl) (fun _ _ _ _ h => h) hC rfl ?_; apply Exists.intro; refine ⟨?_, ?_⟩
       ·rintro w ⟨r1, r2, r3, r4, r5⟩; go_simp; try with_reducible rfl
       simp only [Act.put, List.setIfInBounds_toArray, List.set_cons_succ, List.set_cons_zero]
       refine Lim.stepR 16 (fun _ => trivial) rfl (by kernel_rfl) (fun _ _ _ _ h => h) hC rfl ?_; apply Exists.intro; refine ⟨?_, ?_⟩
       ·rintro w ⟨r1, r2, r3, r4, r5⟩; go_simp; try with_reducible rfl
       simp only [Act.put, List.setIfInBounds_toArray, List.set_cons_succ, List.set_cons_zero]
       refine Lim.stepD (by kernel_rfl) ?_
       clear hC
       have HK2 : Hid (KeepsOthers W' W'.drew ∧ ReM w B bf bm c m (some ⟨go, oo, none⟩) oc ev sv R q1 bs M' Fr' q' W'.drew ∧ MarksLt (bs + 1) w8.heap.size ds W'.drew ∧ StA bs bp (bq + 2) W'.drew ∧ (W'.drew.cell? ⟨bp, 0, none⟩ = some (.int .i64 p) ∧ W'.drew.cell? ⟨bl, 0, none⟩ = some (.int .i64 (-1)) ∧ W'.drew.frozen? ⟨bl, 0, none⟩ = false ∧ StA bs bl (bl + 1) W'.drew) ∧ Ne bq (bq + 1) m.wd m.n oc p (some ⟨go, oo, none⟩) W'.drew) :=
        Lib.hid ⟨KeepsOthers.drew W', h2.out.below (Below.refl _ W').drew, h3.out.keeps (KeepsOthers.drew W'), h4.out.sep h2.out.st (T := fun _ => False) (Sep.drew W') id, ⟨h5.out.1, h5.out.2.1, h5.out.2.2.1, h5.out.2.2.2.sep h2.out.st (T := fun _ => False) (Sep.drew W') id⟩, h6.below (Below.refl _ W').drew⟩
       gi_wp2_with fail
       exact ⟨HK2.out.1.from _, M', Fr', rk', t', q', Lib.hid ⟨h1.out.1.skip (fun he => absurd (HR0.out.symm.trans hz) he.2), h1.out.2⟩, Lib.hid HK2.out.2.1, Lib.hid HK2.out.2.2.1, Lib.hid HK2.out.2.2.2.1, Lib.hid HK2.out.2.2.2.2.1, HK2.out.2.2.2.2.2⟩
      ·have g0 : (x0 == 0) = false := by simpa using hz
       refine Lim.regC (fun W => W.cell? ⟨q1, 0, none⟩ = some (.pointer (some ⟨bf, 0, none⟩)) ∧ W.cell? ⟨bf, 5 + y, none⟩ = some (.bool false) ∧ W.cell? ⟨bf, 4, none⟩ = some (.map (some bm)) ∧ W.cell? ⟨bp, 0, none⟩ = some (.int .i64 p) ∧ (Instr.lookup 106 (.map (some bm)) (.agg #[.int .i64 p, .int .i64 y]) false).run Try.prog W = .ok (.int .i64 x0) W) [] #[false, false, false, false, false, false, false, false, false, false, false, false, false, false, false, false, false] (by kernel_rfl) rfl ?_
       refine Lim.stepR 0 (fun _ => trivial) rfl (by kernel_rfl) (fun _ _ _ _ h => h) hC rfl ?_; apply Exists.intro; refine ⟨?_, ?_⟩
       ·rintro w ⟨r1, r2, r3, r4, r5⟩; go_simp; try with_reducible rfl
       simp only [Act.put, List.setIfInBounds_toArray, List.set_cons_succ, List.set_cons_zero]
       refine Lim.stepR 1 (fun _ => trivial) rfl (by kernel_rfl) (fun _ _ _ _ h => h) hC rfl ?_; apply Exists.intro; refine ⟨?_, ?_⟩
       ·rintro w ⟨r1, r2, r3, r4, r5⟩; go_simp; try with_reducible rfl
       simp only [Act.put, List.setIfInBounds_toArray, List.set_cons_succ, List.set_cons_zero]
       refine Lim.stepR 2 (fun _ => trivial) rfl (by kernel_rfl) (fun _ _ _ _ h => h) hC rfl ?_; apply Exists.intro; refine ⟨?_, ?_⟩
       ·rintro w ⟨r1, r2, r3, r4, r5⟩; go_simp; try with_reducible rfl
       simp only [Act.put, List.setIfInBounds_toArray, List.set_cons_succ, List.set_cons_zero]
       refine Lim.stepR 3 (fun _ => trivial) rfl (by kernel_rfl) (fun _ _ _ _ h => h) hC rfl ?_; apply Exists.intro; refine ⟨?_, ?_⟩
       ·rintro w ⟨r1, r2, r3, r4, r5⟩; go_simp; try with_reducible rfl
       simp only [Act.put, List.setIfInBounds_toArray, List.set_cons_succ, List.set_cons_zero]
       refine Lim.stepR 4 (fun _ => trivial) rfl (by kernel_rfl) (fun _ _ _ _ h => h) hC rfl ?_; apply Exists.intro; refine ⟨?_, ?_⟩
       ·rintro w ⟨r1, r2, r3, r4, r5⟩; go_simp; try with_reducible rfl
       simp only [Act.put, List.setIfInBounds_toArray, List.set_cons_succ, List.set_cons_zero]
       refine Lim.stepR 5 (fun _ => trivial) rfl (by kernel_rfl) (fun _ _ _ _ h => h) hC rfl ?_; apply Exists.intro; refine ⟨?_, ?_⟩
       ·rintro w ⟨r1, r2, r3, r4, r5⟩; go_simp; try with_reducible rfl
       simp only [Act.put, List.setIfInBounds_toArray, List.set_cons_succ, List.set_cons_zero]
       refine Lim.stepR 6 (fun _ => trivial) rfl (by kernel_rfl) (fun _ _ _ _ h => h) hC rfl ?_; apply Exists.intro; refine ⟨?_, ?_⟩
       ·rintro w ⟨r1, r2, r3, r4, r5⟩; go_simp; try with_reducible rfl
       simp only [Act.put, List.setIfInBounds_toArray, List.set_cons_succ, List.set_cons_zero]
       refine Lim.stepR 7 (fun _ => trivial) rfl (by kernel_rfl) (fun _ _ _ _ h => h) hC rfl ?_; apply Exists.intro; refine ⟨?_, ?_⟩
       ·rintro w ⟨r1, r2, r3, r4, r5⟩; go_simp; try with_reducible rfl
       simp only [Act.put, List.setIfInBounds_toArray, List.set_cons_succ, List.set_cons_zero]
       refine Lim.stepR 8 (fun _ => trivial) rfl (by kernel_rfl) (fun _ _ _ _ h => h) hC rfl ?_; apply Exists.intro; refine ⟨?_, ?_⟩
       ·rintro w ⟨r1, r2, r3, r4, r5⟩; go_simp; try with_reducible rfl
       simp only [Act.put, List.setIfInBounds_toArray, List.set_cons_succ, List.set_cons_zero]
       refine Lim.stepR 9 (fun _ => trivial) rfl (by kernel_rfl) (fun _ _ _ _ h => h) hC rfl ?_; apply Exists.intro; refine ⟨?_, ?_⟩
       ·rintro w ⟨r1, r2, r3, r4, r5⟩; go_simp; try with_reducible rfl
       simp only [Act.put, List.setIfInBounds_toArray, List.set_cons_succ, List.set_cons_zero]
       refine Lim.stepR 10 (fun _ => trivial) rfl (by kernel_rfl) (fun _ _ _ _ h => h) hC rfl ?_; apply Exists.intro; refine ⟨?_, ?_⟩
       ·rintro w ⟨r1, r2, r3, r4, r5⟩; go_simp; try with_reducible rfl
       simp only [Act.put, List.setIfInBounds_toArray, List.set_cons_succ, List.set_cons_zero]
       refine Lim.stepR 11 (fun _ => trivial) rfl (by kernel_rfl) (fun _ _ _ _ h => h) hC rfl ?_; apply Exists.intro; refine ⟨?_, ?_⟩
       ·rintro w ⟨r1, r2, r3, r4, r5⟩; go_simp; try with_reducible rfl
       simp only [Act.put, List.setIfInBounds_toArray, List.set_cons_succ, List.set_cons_zero]
       refine Lim.stepR 12 (fun _ => trivial) rfl (by kernel_rfl) (fun _ _ _ _ h => h) hC rfl ?_; apply Exists.intro; refine ⟨?_, ?_⟩
       ·rintro w ⟨r1, r2, r3, r4, r5⟩; go_simp; try with_reducible rfl
       simp only [Act.put, List.setIfInBounds_toArray, List.set_cons_succ, List.set_cons_zero]
       refine Lim.stepR 13 (fun _ => trivial) rfl (by kernel_rfl) (fun _ _ _ _ h => h) hC rfl ?_; apply Exists.intro; refine ⟨?_, ?_⟩
       ·rintro w ⟨r1, r2, r3, r4, r5⟩; go_simp; try with_reducible rfl
       simp only [Act.put, List.setIfInBounds_toArray, List.set_cons_succ, List.set_cons_zero]
       refine Lim.stepR 14 (fun _ => trivial) rfl (by kernel_rfl) (fun _ _ _ _ h => h) hC rfl ?_; apply Exists.intro; refine ⟨?_, ?_⟩
       ·rintro w ⟨r1, r2, r3, r4, r5⟩; go_simp; try with_reducible rfl
       simp only [Act.put, List.setIfInBounds_toArray, List.set_cons_succ, List.set_cons_zero]
       refine Lim.stepR 15 (fun _ => trivial) rfl (by kernel_rfl) (fun _ _ _ _ h => h) hC rfl ?_; apply Exists.intro; refine ⟨?_, ?_⟩
       ·rintro w ⟨r1, r2, r3, r4, r5⟩; go_simp; try with_reducible rfl
       simp only [Act.put, List.setIfInBounds_toArray, List.set_cons_succ, List.set_cons_zero]
       refine Lim.stepR 16 (fun _ => trivial) rfl (by kernel_rfl) (fun _ _ _ _ h => h) hC rfl ?_; apply Exists.intro; refine ⟨?_, ?_⟩
       ·rintro w ⟨r1, r2, r3, r4, r5⟩; go_simp; try with_reducible rfl
       simp only [Act.put, List.setIfInBounds_toArray, List.set_cons_succ, List.set_cons_zero]
       refine Lim.stepD (by kernel_rfl) ?_
       clear hC
       have HK2 : Hid (KeepsOthers W' W'.drew ∧ ReM w B bf bm c m (some ⟨go, oo, none⟩) oc ev sv R q1 bs M' Fr' q' W'.drew ∧ MarksLt (bs + 1) w8.heap.size ds W'.drew ∧ StA bs bp (bq + 2) W'.drew ∧ (W'.drew.cell? ⟨bp, 0, none⟩ = some (.int .i64 p) ∧ W'.drew.cell? ⟨bl, 0, none⟩ = some (.int .i64 (-1)) ∧ W'.drew.frozen? ⟨bl, 0, none⟩ = false ∧ StA bs bl (bl + 1) W'.drew) ∧ Ne bq (bq + 1) m.wd m.n oc p (some ⟨go, oo, none⟩) W'.drew) :=
        Lib.hid ⟨KeepsOthers.drew W', h2.out.below (Below.refl _ W').drew, h3.out.keeps (KeepsOthers.drew W'), h4.out.sep h2.out.st (T := fun _ => False) (Sep.drew W') id, ⟨h5.out.1, h5.out.2.1, h5.out.2.2.1, h5.out.2.2.2.sep h2.out.st (T := fun _ => False) (Sep.drew W') id⟩, h6.below (Below.refl _ W').drew⟩
       generalize W'.drew = W2 at HK2 ⊢
       have HNM : Hid (M' y = false ∧ edR m R p y) := Lib.hid ⟨HMU.out.symm, HNB.out, fun e => hz (HR0.out.trans e)⟩
       have M4 := (HK2.out.2.1.markM (p := y) (by omega)).below (Below.refl _ _).drew
       have M5 := Lib.hid (((HK2.out.2.1.markM (p := y) (by omega)).markF (p := y) (by omega) (p : Int)).below (Below.refl _ _).drew)
       have hs4 : Sep (fun k => k = bf) W2 ((W2.setCell ⟨bf, 5 + y, none⟩ (.bool true)).setCell ⟨bf, 105 + y, none⟩ (.int .i64 p)).drew := ((Sep.set W2 bf (5 + y) _).trans (Sep.set _ bf (105 + y) _)).trans (Sep.drew _)
       have hlt2 := HK2.out.2.1.lt
       have hl8 := HM8.out.2.2.2.2
       have hC3 : (fun W => W.cell? ⟨q1, 0, none⟩ = some (.pointer (some ⟨bf, 0, none⟩)) ∧ W.cell? ⟨bp, 0, none⟩ = some (.int .i64 p)) ((W2.setCell ⟨bf, 5 + y, none⟩ (.bool true)).setCell ⟨bf, 105 + y, none⟩ (.int .i64 p)).drew := ⟨M5.out.c1, hs4.cell HK2.out.2.2.2.2.1.1 (by omega)⟩
       have hC2 : (fun W => W.cell? ⟨q1, 0, none⟩ = some (.pointer (some ⟨bf, 0, none⟩)) ∧ W.cell? ⟨bp, 0, none⟩ = some (.int .i64 p)) (W2.setCell ⟨bf, 5 + y, none⟩ (.bool true)).drew := ⟨M4.c1, (setCell_far _ _ (by omega)).trans HK2.out.2.2.2.2.1.1⟩
       have hC : (fun W => W.cell? ⟨q1, 0, none⟩ = some (.pointer (some ⟨bf, 0, none⟩)) ∧ W.cell? ⟨bp, 0, none⟩ = some (.int .i64 p)) W2.drew := ⟨HK2.out.2.1.c1, HK2.out.2.2.2.2.1.1⟩
       obtain ⟨m4, m5⟩ := HK2.out.2.1.fl.met y (by omega)
       obtain ⟨n4, n5⟩ := (HK2.out.2.1.markM (p := y) (by omega)).fl.fr y (by omega)
       have HK9 : Hid (KeepsOthers W' ((W2.setCell ⟨bf, 5 + y, none⟩ (.bool true)).setCell ⟨bf, 105 + y, none⟩ (.int .i64 p)).drew ∧ StA bs bp (bq + 2) ((W2.setCell ⟨bf, 5 + y, none⟩ (.bool true)).setCell ⟨bf, 105 + y, none⟩ (.int .i64 p)).drew ∧ (((W2.setCell ⟨bf, 5 + y, none⟩ (.bool true)).setCell ⟨bf, 105 + y, none⟩ (.int .i64 p)).drew.cell? ⟨bp, 0, none⟩ = some (.int .i64 p) ∧ ((W2.setCell ⟨bf, 5 + y, none⟩ (.bool true)).setCell ⟨bf, 105 + y, none⟩ (.int .i64 p)).drew.cell? ⟨bl, 0, none⟩ = some (.int .i64 (-1)) ∧ ((W2.setCell ⟨bf, 5 + y, none⟩ (.bool true)).setCell ⟨bf, 105 + y, none⟩ (.int .i64 p)).drew.frozen? ⟨bl, 0, none⟩ = false ∧ StA bs bl (bl + 1) ((W2.setCell ⟨bf, 5 + y, none⟩ (.bool true)).setCell ⟨bf, 105 + y, none⟩ (.int .i64 p)).drew) ∧ Ne bq (bq + 1) m.wd m.n oc p (some ⟨go, oo, none⟩) ((W2.setCell ⟨bf, 5 + y, none⟩ (.bool true)).setCell ⟨bf, 105 + y, none⟩ (.int .i64 p)).drew) :=
        Lib.hid ⟨((HK2.out.1.trans (KeepsOthers.setCell _ ⟨bf, 5 + y, none⟩ _)).trans (KeepsOthers.setCell _ ⟨bf, 105 + y, none⟩ _)).trans (KeepsOthers.drew _), HK2.out.2.2.2.1.sep HK2.out.2.1.st hs4 (by omega), ⟨hs4.cell HK2.out.2.2.2.2.1.1 (by omega), hs4.cell HK2.out.2.2.2.2.1.2.1 (by omega), hs4.frozen HK2.out.2.2.2.2.1.2.1 (by omega) HK2.out.2.2.2.2.1.2.2.1, HK2.out.2.2.2.2.1.2.2.2.sep HK2.out.2.1.st hs4 (by omega)⟩, hs4.cell HK2.out.2.2.2.2.2.1 (by omega), hs4.cell HK2.out.2.2.2.2.2.2.1 (by omega), hs4.cell HK2.out.2.2.2.2.2.2.2 (by omega)⟩
       have HUN : Hid (unN (unR (updB M' y)) m.n + 1 = unN (unR M') m.n) := Lib.hid (by
        rw [unR_upd]
        exact unN_upd (by unfold unR; rw [HNM.out.1]; rfl) (by omega) m.n hyn)
       clear hs4 hlt2 M4 HK2
       gi_wp2_with fail
       refine Lim.regC (fun W => W.cell? ⟨q1, 0, none⟩ = some (.pointer (some ⟨bf, 0, none⟩)) ∧ W.cell? ⟨bp, 0, none⟩ = some (.int .i64 p)) [] #[false, false, false, false, false, false, false, false, false, false, false, false, false] (by kernel_rfl) rfl ?_
       refine Lim.stepR 0 (fun _ => trivial) rfl (by kernel_rfl) (fun _ _ _ _ h => h) hC rfl ?_; apply Exists.intro; refine ⟨?_, ?_⟩
       ·rintro w ⟨r1, r2⟩; go_simp; try with_reducible rfl
       simp only [Act.put, List.setIfInBounds_toArray, List.set_cons_succ, List.set_cons_zero]
       refine Lim.stepR 1 (fun _ => trivial) rfl (by kernel_rfl) (fun _ _ _ _ h => h) hC rfl ?_; apply Exists.intro; refine ⟨?_, ?_⟩
       ·rintro w ⟨r1, r2⟩; go_simp; try with_reducible rfl
       simp only [Act.put, List.setIfInBounds_toArray, List.set_cons_succ, List.set_cons_zero]
       refine Lim.stepR 2 (fun _ => trivial) rfl (by kernel_rfl) (fun _ _ _ _ h => h) hC rfl ?_; apply Exists.intro; refine ⟨?_, ?_⟩
       ·rintro w ⟨r1, r2⟩; go_simp; try with_reducible rfl
       simp only [Act.put, List.setIfInBounds_toArray, List.set_cons_succ, List.set_cons_zero]
       refine Lim.stepR 3 (fun _ => trivial) rfl (by kernel_rfl) (fun _ _ _ _ h => h) hC rfl ?_; apply Exists.intro; refine ⟨?_, ?_⟩
       ·rintro w ⟨r1, r2⟩; go_simp; try with_reducible rfl
       simp only [Act.put, List.setIfInBounds_toArray, List.set_cons_succ, List.set_cons_zero]
       refine Lim.stepR 4 (fun _ => trivial) rfl (by kernel_rfl) (fun _ _ _ _ h => h) hC rfl ?_; apply Exists.intro; refine ⟨?_, ?_⟩
       ·rintro w ⟨r1, r2⟩; go_simp; try with_reducible rfl
       simp only [Act.put, List.setIfInBounds_toArray, List.set_cons_succ, List.set_cons_zero]
       refine Lim.stepR 5 (fun _ => trivial) rfl (by kernel_rfl) (fun _ _ _ _ h => h) hC rfl ?_; apply Exists.intro; refine ⟨?_, ?_⟩
       ·rintro w ⟨r1, r2⟩; go_simp; try with_reducible rfl
       simp only [Act.put, List.setIfInBounds_toArray, List.set_cons_succ, List.set_cons_zero]
       refine Lim.stepR 6 (fun _ => trivial) rfl (by kernel_rfl) (fun _ _ _ _ h => h) hC rfl ?_; apply Exists.intro; refine ⟨?_, ?_⟩
       ·rintro w ⟨r1, r2⟩; go_simp; try with_reducible rfl
       simp only [Act.put, List.setIfInBounds_toArray, List.set_cons_succ, List.set_cons_zero]
       refine Lim.stepR 7 (fun _ => trivial) rfl (by kernel_rfl) (fun _ _ _ _ h => h) hC rfl ?_; apply Exists.intro; refine ⟨?_, ?_⟩
       ·rintro w ⟨r1, r2⟩; go_simp; try with_reducible rfl
       simp only [Act.put, List.setIfInBounds_toArray, List.set_cons_succ, List.set_cons_zero]
       refine Lim.stepR 9 (fun _ => trivial) rfl (by kernel_rfl) (fun _ _ _ _ h => h) hC rfl ?_; apply Exists.intro; refine ⟨?_, ?_⟩
       ·rintro w ⟨r1, r2⟩; go_simp; try with_reducible rfl
       simp only [Act.put, List.setIfInBounds_toArray, List.set_cons_succ, List.set_cons_zero]
       refine Lim.stepR 10 (fun _ => trivial) rfl (by kernel_rfl) (fun _ _ _ _ h => h) hC rfl ?_; apply Exists.intro; refine ⟨?_, ?_⟩
       ·rintro w ⟨r1, r2⟩; go_simp; try with_reducible rfl
       simp only [Act.put, List.setIfInBounds_toArray, List.set_cons_succ, List.set_cons_zero]
       refine Lim.stepE 8 (fun _ => trivial) rfl (by kernel_rfl) rfl (fun K hK => ?_)   -- E store
       go_simp
       refine hK _ _ hC2 ?_
       simp only [Act.put, List.setIfInBounds_toArray, List.set_cons_succ, List.set_cons_zero]
       refine Lim.stepR 11 (fun _ => trivial) rfl (by kernel_rfl) (fun _ _ _ _ h => h) hC2 rfl ?_; apply Exists.intro; refine ⟨?_, ?_⟩
       ·rintro w ⟨r1, r2⟩; go_simp; try with_reducible rfl
       simp only [Act.put, List.setIfInBounds_toArray, List.set_cons_succ, List.set_cons_zero]
       refine Lim.stepE 12 (fun _ => trivial) rfl (by kernel_rfl) rfl (fun K hK => ?_)   -- E store
       go_simp
       refine hK _ _ hC3 ?_
       simp only [Act.put, List.setIfInBounds_toArray, List.set_cons_succ, List.set_cons_zero]
       refine Lim.stepD (by kernel_rfl) ?_
       clear hC hC2 hC3 m4 m5 n4 n5
       generalize ((W2.setCell ⟨bf, 5 + y, none⟩ (.bool true)).setCell ⟨bf, 105 + y, none⟩ (.int .i64 p)).drew = W9 at M5 HK9 ⊢
       obtain ⟨oy, hoy⟩ : ∃ oy, oy = m.own y := ⟨_, rfl⟩
       have e3 : W9.cell? ⟨go, oo + y, none⟩ = some (.int .i64 oy) := by rw [hoy]; exact M5.out.fl.own hyn
       have e4 := M5.out.c1
       have e5 := M5.out.fl.ld.f1
       have HOY := Lib.hid hoy
       clear hoy
       by_cases h1y : oy = 1
       ·have g1 : (oy == 1) = true := by simp [h1y]
        have l1 := HK9.out.2.2.1.2.1
        have l2 := HK9.out.2.2.1.2.2.1
        gi_wp2_with fail
        have hsb : Sep (fun k => k = bl) W9 (W9.setCell ⟨bl, 0, none⟩ (.int .i64 y)) := Sep.set W9 bl 0 _
        have hstA : StM bs q' (W9.setCell ⟨bl, 0, none⟩ (.int .i64 y)) := M5.out.st.sepA hsb (fun k hk e => by
         have := StT.apart HK9.out.2.2.1.2.2.2 hl8.1 hk
         omega)
        have kk : KeepsOthers W' (W9.setCell ⟨bl, 0, none⟩ (.int .i64 y)) := HK9.out.1.trans (KeepsOthers.setCell _ ⟨bl, 0, none⟩ _)
        exact ⟨kk.from _, rfl, updB M' y, upd Fr' y p, _, t' + 1, q', y, Lib.hid ⟨h1.out.1.base hyn HNM.out.2 HNM.out.1 q' (fun x hx => .inl hx), updB_same _ _, HOY.out.symm.trans h1y, by have := h1.out.2.2; have := HUN.out; omega⟩, Lib.hid (M5.out.sep hsb (fun x hx => by rw [hx]; omega) hstA), Lib.hid (h3.out.keeps kk), Lib.hid (setCell_same _ _ l1)⟩
       ·have g1 : (oy == 1) = false := by simpa using h1y
        have HNE : Hid (¬ m.own y = 1) := Lib.hid (fun e => h1y (HOY.out.trans e))
        clear h1y
        obtain ⟨v, hv1, hv2, hv3⟩ := M5.out.st.ex
        have HV := Lib.hid (And.intro hv2 hv3)
        have HLQ : Hid (q'.length ≤ 600) := Lib.hid (by have := h1.out.2.1; have := HB5.out.2.2.2; omega)
        obtain ⟨i0, hi, hz0, hz1, hz2⟩ := info_parts Try.infoInt
        have HF := Lib.hid (And.intro hi (And.intro hz0 (And.intro hz1 hz2)))
        clear hv2 hv3 hi hz0 hz1 hz2
        gi_wp2_with (gi_at_builtin; refine wpListIn_append_q _ rfl _ _ 22 rfl 3 i0 (.int .i64 0) 8 Try.underlying22 HF.out.1 HF.out.2.1 HF.out.2.2.1 HF.out.2.2.2 rfl (bs + 1) v (ints (q'.map Int.ofNat)) rfl (HV.out.2.below ((Below.refl _ _).alloc (Nat.le_refl _) _)) ⟨W9.heap.size, 0, none⟩ 1 (.int .i64 y) rfl (by simp [go_sem]) rfl (by have := HLQ.out; simp [ints]; unfold maxLen; omega) (by have := HLQ.out; simp [ints]; omega) (by have := M5.out.st.lt; simp; omega) ?_; intro v' w6' hown6 hgrow hnew; obtain ⟨g', off', cap', hv'⟩ := hown6.form (k := q'.length) (by simp [ints]); subst hv'; have hb6 : Below W9.heap.size W9 (W9.alloc (.cells #[.int .i64 y] 3)) := (Below.refl _ _).alloc (Nat.le_refl _) _; obtain ⟨p1', p2', p3', p4', p5'⟩ := (M5.out.below hb6).st.push (x := y) (hb6.on hv1) hown6 hgrow hnew; have H6 := Lib.hid (And.intro ((M5.out.below hb6).sep p4' (fun x hx => StT.ge (M5.out.below hb6).st hx) p3') (And.intro p4' (And.intro p5' hb6))); clear p3' p4' p5' hown6 hgrow hnew hb6)
        have hq9 : bq + 1 < W9.heap.size := World.block_lt_of_cell? _ _ HK9.out.2.2.2.2.2
        have hb6 := H6.out.2.2.2
        have hsz : (W9.alloc (.cells #[.int .i64 y] 3)).heap.size = W9.heap.size + 1 := by simp
        have hm6 := (M5.out.below hb6).st
        have sal := HK9.out.2.1.sep M5.out.st (T := fun _ => False) (Sep.of_below hb6) id
        have sbl := HK9.out.2.2.1.2.2.2.sep M5.out.st (T := fun _ => False) (Sep.of_below hb6) id
        have kk := (HK9.out.1.trans (keeps_of_below hb6)).trans (H6.out.2.1.keeps (fun k o h1 h2 => StT.cells hm6 k o h1 h2))
        have nb : ∀ x, bp ≤ x → x < bq + 2 → ¬ StT bs (W9.alloc (.cells #[.int .i64 y] 3)) x := fun x h5 h6 h7 => by
         have := StT.apart sal hl8.2.1 h7
         omega
        have nbl : ¬ StT bs (W9.alloc (.cells #[.int .i64 y] 3)) bl := fun h7 => by
         have := StT.apart sbl hl8.1 h7
         omega
        have st1 := fun (u : Value) (x : Nat) hu hx => H6.out.2.2.1 x (.inr ⟨u, hu, hx⟩)
        exact ⟨kk.from _, updB M' y, upd Fr' y p, _, t' + 1, q' ++ [y], Lib.hid ⟨h1.out.1.add hyn HNM.out.2 HNM.out.1 HNE.out, by have := h1.out.2.1; have := HUN.out; simp; omega, by have := h1.out.2.2; have := HUN.out; omega⟩, Lib.hid H6.out.1, Lib.hid (h3.out.keeps kk),
         Lib.hid (fun u x hu hx => (st1 u x hu hx).elim (fun h => StT.apart sal hl8.2.1 h) (fun h => .inr (by omega))),
         Lib.hid ⟨H6.out.2.1.cell (hb6.on HK9.out.2.2.1.1) (nb _ (by omega) (by omega)), H6.out.2.1.cell (hb6.on HK9.out.2.2.1.2.1) nbl, H6.out.2.1.frozen (hb6.on HK9.out.2.2.1.2.1) nbl (frozen_on hb6 HK9.out.2.2.1.2.1 HK9.out.2.2.1.2.2.1), fun u x hu hx => (st1 u x hu hx).elim (fun h => StT.apart sbl hl8.1 h) (fun h => .inr (by omega))⟩,
         H6.out.2.1.cell (hb6.on HK9.out.2.2.2.1) (nb _ (by omega) (by omega)), H6.out.2.1.cell (hb6.on HK9.out.2.2.2.2.1) (nb _ (by omega) (by omega)), H6.out.2.1.cell (hb6.on HK9.out.2.2.2.2.2) (nb _ (by omega) (by omega))⟩
end Go.Proofs.Ytkjcnkkmhkcddaa
