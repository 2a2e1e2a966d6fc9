/-
  Parts of the proof, in the order in which they build: QiW, QiX, BhB.
-/
import Derived.RangeFuncNested
import Derived.RangeFuncBound
import Derived.RangeFuncCalls
import Derived.RangeFuncLeaves
import Derived.Shelf.Abstract
import Derived.WalkKit
import Derived.IntWalk
import Derived.Lib.Hide
import Derived.OwnWalkIn
import Derived.TacticsInMore
import Derived.LoopNIn
import Derived.LoopIn
import Derived.Laws.OwnMore
import Derived.Maps.OwnIn
import Derived.Great.BuildSlice
import Derived.Test.YtohjinbgbfggcaaB1
import Derived.Test.YtohjinbgbfggcaaA6
set_option linter.unusedVariables false
set_option linter.unusedSimpArgs false
/-
  slices.Backward: the iterators over a list from its end, for whatever loop over them.
-/
namespace Go.Proofs.Ytohjinbgbfggcaa
open Go.RowKit Go.Shelf
open Lim
attribute [local go_sem] Oper.semAt_some

theorem wpListIn_load_mid {F : Fence} {nF : Nat} {P : Program} {ops : Array Oper} {rest : List Oper} {op : Oper} {a : Act} {w : World} {Q : Exit → Act → World → Prop} (hgd : op.guard = none) (ty : TypeId) (x : Operand) (ho : op.op = .load ty x)
    (b o : Nat) (hx : a.eval x = .pointer (some ⟨b, o, none⟩)) (cs : List Value) (d : TypeDesc) (hc : w.rangeAt b o cs)
    (hu : P.underlying ty = some d) (hd : d.isRow = true) (hi : (P.info? ty).map (·.size) = some cs.length)
    (h : wpListIn F nF P ops Q rest (a.put op.dst (.agg cs.toArray)) w) : wpListIn F nF P ops Q (op :: rest) a w := by
  refine wpListIn_plain hgd fun K hK => ?_
  unfold Oper.wpIn
  refine ⟨fun f hf => by simp [Oper.about, ho] at hf, ?_⟩
  rw [Oper.semAt_plain F _ _ (by rw [ho]; intro c hc'; cases hc')]
  unfold execOp
  simp only [ho, hx, Instr.loadAt, Instr.sureAddr, Sem.run_bind, Sem.run_pure, Result.andThen_ok, run_loadVar_mid w b o ty cs d hc hu hd hi, Oper.uponIn]
  exact hK _ _ h
/-- the first m of the places from the last one on -/
def bk (n : Nat) : Nat → List Nat
  | 0 => []
  | m + 1 => bk n m ++ [n - 1 - m]
theorem bk_pre (n : Nat) {m m' : Nat} (h : m ≤ m') : bk n m <+: bk n m' := by
  induction m' with
  | zero => rw [Nat.le_zero.1 h]; exact List.prefix_rfl
  | succ k ih =>
    by_cases e : m = k + 1
    · rw [e]; exact List.prefix_rfl
    · exact (ih (by omega)).trans (List.prefix_append _ _)

/-- what is handed over: a place, and what stands there -/
def encbwI (X : Nat → Int) (i : Nat) : Array Value := #[.int .i64 (i : Nat), .int .i64 (X i)]
/-- the cells that the iterator reads -/
def CebwI (q b o n c : Nat) (X : Nat → Int) (w : World) : Prop := w.cell? ⟨q, 0, none⟩ = some (.slice (some ⟨b, o, none⟩) n c) ∧ ∀ j, j < n → w.cell? ⟨b, o + j, none⟩ = some (.int .i64 (X j))
set_option maxRecDepth 100000 in
set_option maxHeartbeats 1000000 in
theorem back1bwI (n' : Nat) (l q b o n c : Nat) (X : Nat → Int) (J Jx : List Nat → World → Prop)
    (hY : ∀ pre x W, J pre W → pre ++ [x] <+: bk n n → YieldAt Fence.wide (n' - 1) Try.prog l (encbwI X x) W fun e W' =>
      (e = .returned (.bool true) ∧ J (pre ++ [x]) W' ∧ (CebwI q b o n c X W → CebwI q b o n c X W')) ∨ (e = .returned (.bool false) ∧ Jx (pre ++ [x]) W'))
    (W : World) (hn : n ≤ 1000) (hC0 : CebwI q b o n c X W) (h0 : J [] W) :
    CallsIn Fence.wide n' Try.prog 96 #[.func (.yield l) #[] #[], .pointer (some ⟨q, 0, none⟩)] W fun e W' => (∃ v, e = .returned v) ∧
      ((∃ ys, ys = bk n n ∧ J ys W') ∨ (∃ pre, pre <+: bk n n ∧ Jx pre W')) := by
  have HY := Lib.hid hY
  have HC := Lib.hid hC0
  have H0 := Lib.hid h0
  have r1 := hC0.1
  have hw0 : IntKind.i64.wrap ((n : Int) - 1) = (n : Int) - 1 := IntWalk.i64_in _ (by omega)
  clear hY h0 hC0
  refine callsIn_of_wp Try.func96 rfl trivial ?_ rfl
  simp only [Try.ntmps96, List.size_toArray, List.length_cons, List.length_nil, Nat.reduceAdd, Nat.reduceSub, Array.replicate_succ, Array.replicate_zero, List.push_toArray, List.append_toArray, List.nil_append, List.cons_append]
  gi_wp2
  gi_loopw [3] (fun kv wr => ∃ m : Nat, m ≤ n ∧ kv = .int .i64 ((n : Int) - 1 - m) ∧ Hid (CebwI q b o n c X wr) ∧ Hid (J (bk n m) wr)) (fun kv _ => (intOf kv + 1).toNat)
  case atStart => exact ⟨0, Nat.zero_le _, by simp, HC, H0⟩
  case round =>
    clear H0 HC r1 hw0
    obtain ⟨m, hm, rfl, hC, hJ⟩ := hrel
    have r1 := hC.out.1
    by_cases hlt : m < n
    · obtain ⟨i, hi⟩ : ∃ i : Nat, (n : Int) - 1 - m = i := ⟨n - 1 - m, by omega⟩
      rw [hi]
      have hin : i < n := by omega
      have him : i = n - 1 - m := by omega
      have g1 : decide ((0 : Int) ≤ (i : Int)) = true := by simp
      have hwi : IntKind.i64.wrap ((i : Int) - 1) = (i : Int) - 1 := IntWalk.i64_in _ (by omega)
      have hbi : (i : Int) < n := by omega
      have HX : Hid (bk n (m + 1) = bk n m ++ [i]) := Lib.hid (by rw [him]; rfl)
      have HP : Hid (bk n m ++ [i] <+: bk n n) := Lib.hid (by rw [← HX.out]; exact bk_pre n (by omega))
      have HYi := Lib.hid (HY.out (bk n m) i wr hJ.out HP.out)
      have HI := Lib.hid (And.intro hi him)
      have c0 := hC.out.2 i hin
      clear hi him
      gi_wp2_with fail
      have hY2 : YieldAt Fence.wide (n' - 1) Try.prog l #[.int .i64 (i : Nat), .int .i64 (X i)] wr fun e W' => (e = .returned (.bool true) ∧ J (bk n m ++ [i]) W' ∧ (CebwI q b o n c X wr → CebwI q b o n c X W')) ∨ (e = .returned (.bool false) ∧ Jx (bk n m ++ [i]) W') := HYi.out
      obtain ⟨fn, tmps, assign, body, hy, hR⟩ := hY2
      rw [hy]
      simp only [Oper.uponIn]
      refine ⟨fun h => (by cases h), hR.mono ?_⟩
      rintro e W2 (⟨rfl, hJ2, hb2⟩ | ⟨rfl, hJx2⟩)
      · have hCd2 := Lib.hid (hb2 hC.out)
        have hJd2 := Lib.hid hJ2
        clear hb2 hJ2 hR hy c0 r1 HYi
        gi_wp2
        go_roundw
        case rel => exact ⟨m + 1, by omega, by have := HI.out.1; congr 1; push_cast; omega, hCd2, by rw [HX.out]; exact hJd2⟩
        case measure => first | (simp [intOf]; done) | (simp [intOf]; omega)
      · have hJd2 := Lib.hid hJx2
        clear hJx2 hR hy c0 r1 HYi
        gi_wp2
        refine bodyPost_ret (results_none rfl _ _ _) rfl ?_
        exact ⟨⟨_, rfl⟩, .inr ⟨_, HP.out, hJd2.out⟩⟩
    · have hmn : m = n := by omega
      have g1 : decide ((0 : Int) ≤ (n : Int) - 1 - m) = false := by simp; omega
      have HMN := Lib.hid hmn
      clear hmn
      gi_wp2
      refine bodyPost_end (results_none rfl _ _ _) rfl ?_
      exact ⟨⟨_, rfl⟩, .inl ⟨_, rfl, by have h := hJ.out; rw [HMN.out] at h; exact h⟩⟩

theorem CebwI.steady {q b o n c B : Nat} {X : Nat → Int} {w w' : World} (h : CebwI q b o n c X w) (hs : Steady B w w') : CebwI q b o n c X w' := ⟨hs.cell h.1, fun j hj => hs.cell (h.2 j hj)⟩
theorem CebwI.below {q b o n c : Nat} {X : Nat → Int} {w w' : World} (h : CebwI q b o n c X w) (hb : Below w.heap.size w w') : CebwI q b o n c X w' := ⟨hb.on h.1, fun j hj => hb.on (h.2 j hj)⟩
theorem back_iterI {q b o n c : Nat} {X : Nat → Int} {w : World} (hn : n ≤ 1000) (h : CebwI q b o n c X w) :
    IterG Try.prog 96 #[.pointer (some ⟨q, 0, none⟩)] (CebwI q b o n c X) (encbwI X) (bk n n) w := by
  intro n' l J Jx W hW hJ hJx hY h0
  have hCW := h.below hW
  have key := back1bwI n' l q b o n c X (fun pre W => ∃ pl : List { x : Nat // x ∈ bk n n }, pl.map (·.1) = pre ∧ J pl W)
    (fun pre W => ∃ pl : List { x : Nat // x ∈ bk n n }, pl.map (·.1) = pre ∧ Jx pl W) ?_ W hn hCW ⟨[], rfl, h0⟩
  · refine key.mono ?_
    rintro e W' ⟨hv, ⟨ys, hys, pl, hpl, hj⟩ | ⟨pre, hpre, pl, hpl, hj⟩⟩
    · exact ⟨hv, .inl ⟨pl, hpl.trans hys, hj⟩⟩
    · exact ⟨hv, .inr ⟨pl, (by show pl.map (·.1) <+: _; rw [hpl]; exact hpre), hj⟩⟩
  · rintro pre x W1 ⟨pl, hpl, hj⟩ hpre
    have hx : x ∈ bk n n := hpre.subset (by simp)
    have hlen : pl.length < (bk n n).length + 1 := by
      have h1 := hpre.length_le
      rw [← hpl] at h1
      simp at h1
      omega
    obtain ⟨fn, tmps, assign, body, hy, hR⟩ := hY pl ⟨x, hx⟩ W1 hj hlen
    refine ⟨fn, tmps, assign, body, hy, hR.mono ?_⟩
    rintro e W' (⟨he, hj', hk⟩ | ⟨he, hj'⟩)
    · exact .inl ⟨he, ⟨pl ++ [⟨x, hx⟩], by simp [hpl], hj'⟩, hk⟩
    · exact .inr ⟨he, ⟨pl ++ [⟨x, hx⟩], by simp [hpl], hj'⟩⟩
set_option maxHeartbeats 400000 in
theorem backward_anyI (a : Option Addr) (n c : Nat) (w : World) :
    Calls Try.prog 84 #[.slice a n c] w fun e w' => e = .returned (.func (.func 96) #[] #[.pointer (some ⟨w.heap.size, 0, none⟩)]) ∧ w.alloc (.cells #[.slice a n c] 25) = w' := by
  go_enter Try.func84, Try.ntmps84
  go_wp2
  go_ret
  exact ⟨rfl, rfl⟩

/-- what is handed over: a place, and what stands there -/
def encbwC (X : Nat → Nat → Nat) (i : Nat) : Array Value := #[.int .i64 (i : Nat), .agg (row40 (X i)).toArray]
/-- the cells that the iterator reads -/
def CebwC (q b n c : Nat) (X : Nat → Nat → Nat) (w : World) : Prop := w.cell? ⟨q, 0, none⟩ = some (.slice (some ⟨b, 0, none⟩) n c) ∧ ∀ j, j < n → w.rangeAt b (j * 40) (row40 (X j))
set_option maxRecDepth 100000 in
set_option maxHeartbeats 1000000 in
theorem back1bwC (n' : Nat) (l q b n c : Nat) (X : Nat → Nat → Nat) (J Jx : List Nat → World → Prop)
    (hY : ∀ pre x W, J pre W → pre ++ [x] <+: bk n n → YieldAt Fence.wide (n' - 1) Try.prog l (encbwC X x) W fun e W' =>
      (e = .returned (.bool true) ∧ J (pre ++ [x]) W' ∧ (CebwC q b n c X W → CebwC q b n c X W')) ∨ (e = .returned (.bool false) ∧ Jx (pre ++ [x]) W'))
    (W : World) (hn : n ≤ 1000) (hC0 : CebwC q b n c X W) (h0 : J [] W) :
    CallsIn Fence.wide n' Try.prog 97 #[.func (.yield l) #[] #[], .pointer (some ⟨q, 0, none⟩)] W fun e W' => (∃ v, e = .returned v) ∧
      ((∃ ys, ys = bk n n ∧ J ys W') ∨ (∃ pre, pre <+: bk n n ∧ Jx pre W')) := by
  have HY := Lib.hid hY
  have HC := Lib.hid hC0
  have H0 := Lib.hid h0
  have r1 := hC0.1
  have hw0 : IntKind.i64.wrap ((n : Int) - 1) = (n : Int) - 1 := IntWalk.i64_in _ (by omega)
  clear hY h0 hC0
  refine callsIn_of_wp Try.func97 rfl trivial ?_ rfl
  simp only [Try.ntmps97, List.size_toArray, List.length_cons, List.length_nil, Nat.reduceAdd, Nat.reduceSub, Array.replicate_succ, Array.replicate_zero, List.push_toArray, List.append_toArray, List.nil_append, List.cons_append]
  gi_wp2
  gi_loopw [3] (fun kv wr => ∃ m : Nat, m ≤ n ∧ kv = .int .i64 ((n : Int) - 1 - m) ∧ Hid (CebwC q b n c X wr) ∧ Hid (J (bk n m) wr)) (fun kv _ => (intOf kv + 1).toNat)
  case atStart => exact ⟨0, Nat.zero_le _, by simp, HC, H0⟩
  case round =>
    clear H0 HC r1 hw0
    obtain ⟨m, hm, rfl, hC, hJ⟩ := hrel
    have r1 := hC.out.1
    by_cases hlt : m < n
    · obtain ⟨i, hi⟩ : ∃ i : Nat, (n : Int) - 1 - m = i := ⟨n - 1 - m, by omega⟩
      rw [hi]
      have hin : i < n := by omega
      have him : i = n - 1 - m := by omega
      have g1 : decide ((0 : Int) ≤ (i : Int)) = true := by simp
      have hwi : IntKind.i64.wrap ((i : Int) - 1) = (i : Int) - 1 := IntWalk.i64_in _ (by omega)
      have hbi : (i : Int) < n := by omega
      have HX : Hid (bk n (m + 1) = bk n m ++ [i]) := Lib.hid (by rw [him]; rfl)
      have HP : Hid (bk n m ++ [i] <+: bk n n) := Lib.hid (by rw [← HX.out]; exact bk_pre n (by omega))
      have HYi := Lib.hid (HY.out (bk n m) i wr hJ.out HP.out)
      have HI := Lib.hid (And.intro hi him)
      have c0 := hC.out.2 i hin
      have hsz : (Try.prog.info? 119).map (·.size) = some (row40 (X i)).length := by rw [row40_len]; kernel_rfl
      clear hi him
      gi_wp2_with (refine wpListIn_load_mid rfl 119 _ rfl b (i * 40) rfl (row40 (X i)) _ c0 Try.underlying119 rfl hsz ?_)
      have hY2 : YieldAt Fence.wide (n' - 1) Try.prog l #[.int .i64 (i : Nat), .agg (row40 (X i)).toArray] wr fun e W' => (e = .returned (.bool true) ∧ J (bk n m ++ [i]) W' ∧ (CebwC q b n c X wr → CebwC q b n c X W')) ∨ (e = .returned (.bool false) ∧ Jx (bk n m ++ [i]) W') := HYi.out
      obtain ⟨fn, tmps, assign, body, hy, hR⟩ := hY2
      rw [hy]
      simp only [Oper.uponIn]
      refine ⟨fun h => (by cases h), hR.mono ?_⟩
      rintro e W2 (⟨rfl, hJ2, hb2⟩ | ⟨rfl, hJx2⟩)
      · have hCd2 := Lib.hid (hb2 hC.out)
        have hJd2 := Lib.hid hJ2
        clear hb2 hJ2 hR hy c0 r1 HYi
        gi_wp2
        go_roundw
        case rel => exact ⟨m + 1, by omega, by have := HI.out.1; congr 1; push_cast; omega, hCd2, by rw [HX.out]; exact hJd2⟩
        case measure => first | (simp [intOf]; done) | (simp [intOf]; omega)
      · have hJd2 := Lib.hid hJx2
        clear hJx2 hR hy c0 r1 HYi
        gi_wp2
        refine bodyPost_ret (results_none rfl _ _ _) rfl ?_
        exact ⟨⟨_, rfl⟩, .inr ⟨_, HP.out, hJd2.out⟩⟩
    · have hmn : m = n := by omega
      have g1 : decide ((0 : Int) ≤ (n : Int) - 1 - m) = false := by simp; omega
      have HMN := Lib.hid hmn
      clear hmn
      gi_wp2
      refine bodyPost_end (results_none rfl _ _ _) rfl ?_
      exact ⟨⟨_, rfl⟩, .inl ⟨_, rfl, by have h := hJ.out; rw [HMN.out] at h; exact h⟩⟩

theorem CebwC.steady {q b n c B : Nat} {X : Nat → Nat → Nat} {w w' : World} (h : CebwC q b n c X w) (hs : Steady B w w') : CebwC q b n c X w' := ⟨hs.cell h.1, fun j hj k v hk => hs.cell (h.2 j hj k v hk)⟩
theorem CebwC.below {q b n c : Nat} {X : Nat → Nat → Nat} {w w' : World} (h : CebwC q b n c X w) (hb : Below w.heap.size w w') : CebwC q b n c X w' := ⟨hb.on h.1, fun j hj k v hk => hb.on (h.2 j hj k v hk)⟩
theorem back_iterC {q b n c : Nat} {X : Nat → Nat → Nat} {w : World} (hn : n ≤ 1000) (h : CebwC q b n c X w) :
    IterG Try.prog 97 #[.pointer (some ⟨q, 0, none⟩)] (CebwC q b n c X) (encbwC X) (bk n n) w := by
  intro n' l J Jx W hW hJ hJx hY h0
  have hCW := h.below hW
  have key := back1bwC n' l q b n c X (fun pre W => ∃ pl : List { x : Nat // x ∈ bk n n }, pl.map (·.1) = pre ∧ J pl W)
    (fun pre W => ∃ pl : List { x : Nat // x ∈ bk n n }, pl.map (·.1) = pre ∧ Jx pl W) ?_ W hn hCW ⟨[], rfl, h0⟩
  · refine key.mono ?_
    rintro e W' ⟨hv, ⟨ys, hys, pl, hpl, hj⟩ | ⟨pre, hpre, pl, hpl, hj⟩⟩
    · exact ⟨hv, .inl ⟨pl, hpl.trans hys, hj⟩⟩
    · exact ⟨hv, .inr ⟨pl, (by show pl.map (·.1) <+: _; rw [hpl]; exact hpre), hj⟩⟩
  · rintro pre x W1 ⟨pl, hpl, hj⟩ hpre
    have hx : x ∈ bk n n := hpre.subset (by simp)
    have hlen : pl.length < (bk n n).length + 1 := by
      have h1 := hpre.length_le
      rw [← hpl] at h1
      simp at h1
      omega
    obtain ⟨fn, tmps, assign, body, hy, hR⟩ := hY pl ⟨x, hx⟩ W1 hj hlen
    refine ⟨fn, tmps, assign, body, hy, hR.mono ?_⟩
    rintro e W' (⟨he, hj', hk⟩ | ⟨he, hj'⟩)
    · exact .inl ⟨he, ⟨pl ++ [⟨x, hx⟩], by simp [hpl], hj'⟩, hk⟩
    · exact .inr ⟨he, ⟨pl ++ [⟨x, hx⟩], by simp [hpl], hj'⟩⟩
set_option maxHeartbeats 400000 in
theorem backward_anyC (a : Option Addr) (n c : Nat) (w : World) :
    Calls Try.prog 85 #[.slice a n c] w fun e w' => e = .returned (.func (.func 97) #[] #[.pointer (some ⟨w.heap.size, 0, none⟩)]) ∧ w.alloc (.cells #[.slice a n c] 116) = w' := by
  go_enter Try.func85, Try.ntmps85
  go_wp2
  go_ret
  exact ⟨rfl, rfl⟩
end Go.Proofs.Ytohjinbgbfggcaa
/-
  slices.Reverse of spans: the contract.
-/
namespace Go.Proofs.Ytohjinbgbfggcaa
open Go.RowKit Go.Shelf
open Lim

theorem spans_set (L : List (Int × Int)) : ∀ (k : Nat) (x y : Int), ((spans L).set (k * 2) (.int .i64 x)).set (k * 2 + 1) (.int .i64 y) = spans (L.set k (x, y)) := by
  induction L with
  | nil => intro k x y; rfl
  | cons s L ih =>
    intro k x y
    rw [spans_cons]
    cases k with
    | zero => rfl
    | succ k =>
      rw [show (k + 1) * 2 = k * 2 + 1 + 1 from by omega]
      simp only [List.set_cons_succ]
      rw [ih k x y, spans_cons]
/-- a row of spans has been written at k -/
theorem span_put {W : World} {S p n cap : Nat} {L : List (Int × Int)} (h : W.ownsRow S 28 2 (.slice (some ⟨p, 0, none⟩) n cap) n (spans L)) (k : Nat) (x y : Int) :
    ((W.setCell ⟨p, k * 2, none⟩ (.int .i64 x)).setCell ⟨p, k * 2 + 1, none⟩ (.int .i64 y)).ownsRow S 28 2 (.slice (some ⟨p, 0, none⟩) n cap) n (spans (L.set k (x, y))) := by
  rw [← spans_set]
  exact ((h.stored (k * 2) (.int .i64 x)).1.stored (k * 2 + 1) (.int .i64 y)).1
theorem span_at {W : World} {S p n cap : Nat} {L : List (Int × Int)} (h : W.ownsRow S 28 2 (.slice (some ⟨p, 0, none⟩) n cap) n (spans L)) {k : Nat} (hk : k < n) :
    (W.cell? ⟨p, k * 2, none⟩ = some (.int .i64 (L.getD k (0, 0)).1) ∧ W.cell? ⟨p, k * 2 + 1, none⟩ = some (.int .i64 (L.getD k (0, 0)).2)) ∧ W.frozen? ⟨p, k * 2, none⟩ = false ∧ W.frozen? ⟨p, k * 2 + 1, none⟩ = false := by
  have hl : L.length = n := by have := h.1; rw [spans_length] at this; omega
  have hk' : k < L.length := by omega
  refine ⟨⟨?_, ?_⟩, h.frozenAt _, h.frozenAt _⟩
  · rw [h.cellAt _ (by omega), spans_lo L k hk', List.getD_eq_getElem?_getD, List.getElem?_eq_getElem hk']; rfl
  · rw [h.cellAt _ (by omega), spans_hi L k hk', List.getD_eq_getElem?_getD, List.getElem?_eq_getElem hk']; rfl
theorem spget (L : List (Int × Int)) (i j : Nat) (v : Int × Int) : (L.set i v).getD j (0, 0) = if i = j ∧ j < L.length then v else L.getD j (0, 0) := by
  rw [List.getD_eq_getElem?_getD, List.getD_eq_getElem?_getD, List.getElem?_set]
  by_cases h : i = j
  · subst h
    by_cases h2 : i < L.length
    · simp [h2]
    · simp [h2]
  · simp [h]
theorem Lim.anyC_of_wp {F : Fence} {n : Nat} {P : Program} {ops : Array Oper} {Q : Exit → Act → World → Prop} : ∀ (fuel : Nat) (listed : Array Bool) (a : Act) (w : World), wpAnyIn F n P .any ops Q fuel listed a w → anyC F n P ops Q (fun _ => True) [] fuel listed a w
  | 0, _, _, _, h => h
  | fuel + 1, _, _, _, h => ⟨h.1, fun i hi => wpOpIn_mono (fun _ _ hk => .inr ⟨by simp, trivial, Lim.anyC_of_wp fuel _ _ _ hk⟩) (h.2 i hi)⟩
/-- a list of which the first m and the last m are changed for each other -/
def revTo (L : List (Int × Int)) : Nat → List (Int × Int)
  | 0 => L
  | m + 1 => ((revTo L m).set m (L.getD (L.length - 1 - m) (0, 0))).set (L.length - 1 - m) (L.getD m (0, 0))
theorem revTo_len (L : List (Int × Int)) : ∀ m, (revTo L m).length = L.length
  | 0 => rfl
  | m + 1 => by rw [revTo, List.length_set, List.length_set, revTo_len L m]
theorem revTo_at (L : List (Int × Int)) : ∀ (m k : Nat), m ≤ L.length / 2 → k < L.length → (revTo L m).getD k (0, 0) = if k < m ∨ L.length - 1 - k < m then L.getD (L.length - 1 - k) (0, 0) else L.getD k (0, 0)
  | 0, k, _, _ => by rw [if_neg (by omega)]; rfl
  | m + 1, k, hm, hk => by
    rw [revTo, spget, spget, List.length_set, revTo_len, revTo_at L m k (by omega) hk]
    by_cases e1 : L.length - 1 - m = k
    · rw [if_pos ⟨e1, hk⟩, if_pos (by omega), show L.length - 1 - k = m by omega]
    · rw [if_neg (by omega)]
      by_cases e2 : m = k
      · rw [if_pos ⟨e2, hk⟩, if_pos (by omega), e2]
      · rw [if_neg (by omega)]
        by_cases h : k < m ∨ L.length - 1 - k < m
        · rw [if_pos h, if_pos (by omega)]
        · rw [if_neg h, if_neg (by omega)]
theorem revTo_all (L : List (Int × Int)) {m : Nat} (hm : m ≤ L.length / 2) (h : L.length ≤ 2 * m + 1) : revTo L m = L.reverse := by
  refine List.ext_getElem? (fun k => ?_)
  by_cases hk : k < L.length
  · have h1 := revTo_at L m k hm hk
    rw [List.getD_eq_getElem?_getD, List.getElem?_eq_getElem (by rw [revTo_len]; exact hk)] at h1
    simp only [Option.getD_some] at h1
    rw [List.getElem?_eq_getElem (by rw [revTo_len]; exact hk), List.getElem?_eq_getElem (by rw [List.length_reverse]; exact hk), h1, List.getElem_reverse]
    by_cases e : k < m ∨ L.length - 1 - k < m
    · rw [if_pos e, List.getD_eq_getElem?_getD, List.getElem?_eq_getElem (by omega)]; rfl
    · rw [if_neg e, List.getD_eq_getElem?_getD, List.getElem?_eq_getElem hk]
      have e2 : L.length - 1 - k = k := by omega
      simp only [Option.getD_some, e2]
  · rw [List.getElem?_eq_none (by rw [revTo_len]; omega), List.getElem?_eq_none (by rw [List.length_reverse]; omega)]
set_option maxRecDepth 20000 in
set_option maxHeartbeats 1000000 in
theorem revS_some {base g cap n : Nat} {L : List (Int × Int)} {w : World} (hn : n ≤ 1000) (hL : n = L.length) (h : w.ownsRow base 28 2 (.slice (some ⟨g, 0, none⟩) n cap) n (spans L)) :
    Calls Try.prog 83 #[.slice (some ⟨g, 0, none⟩) n cap] w fun e w' => e = .returned (.tuple #[]) ∧ w'.ownsRow base 28 2 (.slice (some ⟨g, 0, none⟩) n cap) n (spans L.reverse) ∧ w.grownBy w' (some g) := by
  have HH : Hid (w.ownsRow base 28 2 (.slice (some ⟨g, 0, none⟩) n cap) n (spans (revTo L 0)) ∧ w.grownBy w (some g)) := Lib.hid ⟨h, .refl _ _⟩
  have HL := Lib.hid hL
  have hw0 : IntKind.i64.wrap ((n : Int) - 1) = (n : Int) - 1 := IntWalk.i64_in _ (by omega)
  clear h hL
  go_enter Try.func83, Try.ntmps83
  go_wp2_with fail
  go_loopw [2, 3] (fun iv jv wr => ∃ m : Nat, m ≤ n / 2 ∧ iv = .int .i64 m ∧ jv = .int .i64 ((n : Int) - 1 - m) ∧ Hid (wr.ownsRow base 28 2 (.slice (some ⟨g, 0, none⟩) n cap) n (spans (revTo L m)) ∧ w.grownBy wr (some g))) (fun iv _ _ => n - (intOf iv).toNat)
  case atStart => exact ⟨0, Nat.zero_le _, by go_num, by simp, HH⟩
  case round =>
    clear HH hw0
    obtain ⟨i, him, rfl, rfl, hH⟩ := hrel
    by_cases hlt : (i : Int) < (n : Int) - 1 - i
    · obtain ⟨j, hj⟩ : ∃ j : Nat, (n : Int) - 1 - i = j := ⟨n - 1 - i, by omega⟩
      rw [hj] at hlt ⊢
      have g1 : decide ((i : Int) < j) = true := decide_eq_true hlt
      have hij : i < j := by omega
      have hjn : (j : Int) < n := by omega
      have hin : (i : Int) < n := by omega
      have e1 := span_at hH.out.1 (k := i) (by omega)
      have e2 := span_at hH.out.1 (k := j) (by omega)
      obtain ⟨⟨x1, x2⟩, hx⟩ : ∃ s, s = (revTo L i).getD i (0, 0) := ⟨_, rfl⟩
      obtain ⟨⟨y1, y2⟩, hy⟩ : ∃ s, s = (revTo L i).getD j (0, 0) := ⟨_, rfl⟩
      rw [← hx] at e1
      rw [← hy] at e2
      have HX : Hid (revTo L (i + 1) = ((revTo L i).set i (y1, y2)).set j (x1, x2)) := Lib.hid (by
        have hl := HL.out
        have hjl : j = L.length - 1 - i := by omega
        rw [revTo_at L i i (by omega) (by omega), if_neg (by omega)] at hx
        rw [revTo_at L i j (by omega) (by omega), if_neg (by omega)] at hy
        rw [revTo, hx, hy, ← hjl])
      have hwi : IntKind.i64.wrap ((i : Int) + 1) = (i : Int) + 1 := IntWalk.i64_in _ (by omega)
      have hwj : IntKind.i64.wrap ((j : Int) - 1) = (j : Int) - 1 := IntWalk.i64_in _ (by omega)
      have HJ := Lib.hid hj
      obtain ⟨⟨a1, a2⟩, f1, f2⟩ := e1
      obtain ⟨⟨b1, b2⟩, f3, f4⟩ := e2
      have HP : Hid ((((((wr.drew.setCell ⟨g, i * 2, none⟩ (.int .i64 y1)).setCell ⟨g, i * 2 + 1, none⟩ (.int .i64 y2)).setCell ⟨g, j * 2, none⟩ (.int .i64 x1)).setCell ⟨g, j * 2 + 1, none⟩ (.int .i64 x2)).ownsRow base 28 2 (.slice (some ⟨g, 0, none⟩) n cap) n (spans (revTo L (i + 1)))) ∧
          w.grownBy ((((wr.drew.setCell ⟨g, i * 2, none⟩ (.int .i64 y1)).setCell ⟨g, i * 2 + 1, none⟩ (.int .i64 y2)).setCell ⟨g, j * 2, none⟩ (.int .i64 x1)).setCell ⟨g, j * 2 + 1, none⟩ (.int .i64 x2)) (some g)) := Lib.hid (by
        have h0 : wr.drew.ownsRow base 28 2 (.slice (some ⟨g, 0, none⟩) n cap) n (spans (revTo L i)) := owns_below hH.out.1 (Below.refl _ wr).drew
        have h1 := span_put h0 i y1 y2
        have h2 := span_put h1 j x1 x2
        refine ⟨by rw [HX.out]; exact h2, ?_⟩
        have gr : ∀ (W : World) (o : Nat) (v : Value), w.grownBy W (some g) → w.grownBy (W.setCell ⟨g, o, none⟩ v) (some g) := fun W o v hg =>
          ⟨hg.os, hg.tape, hg.output, by have := hg.size; simp [World.setCell]; exact this, fun k hk hne => by rw [Below.heap_setCell _ _ _ _ (fun e => hne (by rw [e]))]; exact hg.block k hk hne⟩
        exact gr _ _ _ (gr _ _ _ (gr _ _ _ (gr _ _ _ ⟨hH.out.2.os, hH.out.2.tape, hH.out.2.output, hH.out.2.size, hH.out.2.block⟩))))
      clear hj hx hy hlt
      go_wp2_with fail
      have hC : (fun w => (w.cell? ⟨g, i * 2, none⟩ = some (.int .i64 x1) ∧ w.cell? ⟨g, i * 2 + 1, none⟩ = some (.int .i64 x2)) ∧ (w.cell? ⟨g, j * 2, none⟩ = some (.int .i64 y1) ∧ w.cell? ⟨g, j * 2 + 1, none⟩ = some (.int .i64 y2))) wr.drew := ⟨⟨a1, a2⟩, ⟨b1, b2⟩⟩
      have f1' : wr.drew.frozen? ⟨g, i * 2, none⟩ = false := f1
      have f2' : wr.drew.frozen? ⟨g, i * 2 + 1, none⟩ = false := f2
      have f3' : wr.drew.frozen? ⟨g, j * 2, none⟩ = false := f3
      have f4' : wr.drew.frozen? ⟨g, j * 2 + 1, none⟩ = false := f4
      generalize hW0 : wr.drew = w9 at hC HP f1' f2' f3' f4'
      have s1 : (w9.setCell ⟨g, i * 2, none⟩ (.int .i64 y1)).cell? ⟨g, i * 2 + 1, none⟩ = some (.int .i64 x2) := by rw [setCell_offP _ _ (by omega)]; exact hC.1.2
      have s2 : ((w9.setCell ⟨g, i * 2, none⟩ (.int .i64 y1)).setCell ⟨g, i * 2 + 1, none⟩ (.int .i64 y2)).cell? ⟨g, j * 2, none⟩ = some (.int .i64 y1) := by rw [setCell_offP _ _ (by omega), setCell_offP _ _ (by omega)]; exact hC.2.1
      have s3 : (((w9.setCell ⟨g, i * 2, none⟩ (.int .i64 y1)).setCell ⟨g, i * 2 + 1, none⟩ (.int .i64 y2)).setCell ⟨g, j * 2, none⟩ (.int .i64 x1)).cell? ⟨g, j * 2 + 1, none⟩ = some (.int .i64 y2) := by rw [setCell_offP _ _ (by omega), setCell_offP _ _ (by omega), setCell_offP _ _ (by omega)]; exact hC.2.2
      refine Lim.regC' (fun _ => True) [] #[false, false, false, false, false, false, false, false, false, false, false, false, false, false, false, false] (by kernel_rfl) rfl ?_
      rw [hW0]
      clear hW0
      refine Lim.stepR 2 (fun _ => trivial) rfl (by kernel_rfl) (fun _ _ _ _ h => h) trivial rfl ?_; apply Exists.intro; refine ⟨?_, ?_⟩
      · rintro w -; go_simp; try with_reducible rfl
      simp only [Act.put, List.setIfInBounds_toArray, List.set_cons_succ, List.set_cons_zero]
      refine Lim.stepR 3 (fun _ => trivial) rfl (by kernel_rfl) (fun _ _ _ _ h => h) trivial rfl ?_; apply Exists.intro; refine ⟨?_, ?_⟩
      · rintro w -; go_simp; try with_reducible rfl
      simp only [Act.put, List.setIfInBounds_toArray, List.set_cons_succ, List.set_cons_zero]
      refine Lim.anyC_of_wp _ _ _ _ ?_
      refine Lim.segC (fun w => (w.cell? ⟨g, i * 2, none⟩ = some (.int .i64 x1) ∧ w.cell? ⟨g, i * 2 + 1, none⟩ = some (.int .i64 x2)) ∧ (w.cell? ⟨g, j * 2, none⟩ = some (.int .i64 y1) ∧ w.cell? ⟨g, j * 2 + 1, none⟩ = some (.int .i64 y2))) [13, 15] ?_
      refine Lim.stepR 0 (fun _ => trivial) rfl (by kernel_rfl) (fun _ _ _ _ h => h) hC rfl ?_; apply Exists.intro; refine ⟨?_, ?_⟩
      · rintro w ⟨⟨r1, r2⟩, ⟨r3, r4⟩⟩; go_simp; try with_reducible rfl
      simp only [Act.put, List.setIfInBounds_toArray, List.set_cons_succ, List.set_cons_zero]
      refine Lim.stepR 1 (fun _ => trivial) rfl (by kernel_rfl) (fun _ _ _ _ h => h) hC rfl ?_; apply Exists.intro; refine ⟨?_, ?_⟩
      · rintro w ⟨⟨r1, r2⟩, ⟨r3, r4⟩⟩; go_simp; try with_reducible rfl
      simp only [Act.put, List.setIfInBounds_toArray, List.set_cons_succ, List.set_cons_zero]
      refine Lim.stepR 4 (fun _ => trivial) rfl (by kernel_rfl) (fun _ _ _ _ h => h) hC rfl ?_; apply Exists.intro; refine ⟨?_, ?_⟩
      · rintro w ⟨⟨r1, r2⟩, ⟨r3, r4⟩⟩; go_simp; try with_reducible rfl
      simp only [Act.put, List.setIfInBounds_toArray, List.set_cons_succ, List.set_cons_zero]
      refine Lim.stepR 5 (fun _ => trivial) rfl (by kernel_rfl) (fun _ _ _ _ h => h) hC rfl ?_; apply Exists.intro; refine ⟨?_, ?_⟩
      · rintro w ⟨⟨r1, r2⟩, ⟨r3, r4⟩⟩; go_simp; try with_reducible rfl
      simp only [Act.put, List.setIfInBounds_toArray, List.set_cons_succ, List.set_cons_zero]
      refine Lim.stepR 6 (fun _ => trivial) rfl (by kernel_rfl) (fun _ _ _ _ h => h) hC rfl ?_; apply Exists.intro; refine ⟨?_, ?_⟩
      · rintro w ⟨⟨r1, r2⟩, ⟨r3, r4⟩⟩; go_simp; try with_reducible rfl
      simp only [Act.put, List.setIfInBounds_toArray, List.set_cons_succ, List.set_cons_zero]
      refine Lim.stepR 7 (fun _ => trivial) rfl (by kernel_rfl) (fun _ _ _ _ h => h) hC rfl ?_; apply Exists.intro; refine ⟨?_, ?_⟩
      · rintro w ⟨⟨r1, r2⟩, ⟨r3, r4⟩⟩; go_simp; try with_reducible rfl
      simp only [Act.put, List.setIfInBounds_toArray, List.set_cons_succ, List.set_cons_zero]
      refine Lim.stepR 8 (fun _ => trivial) rfl (by kernel_rfl) (fun _ _ _ _ h => h) hC rfl ?_; apply Exists.intro; refine ⟨?_, ?_⟩
      · rintro w ⟨⟨r1, r2⟩, ⟨r3, r4⟩⟩; go_simp; try with_reducible rfl
      simp only [Act.put, List.setIfInBounds_toArray, List.set_cons_succ, List.set_cons_zero]
      refine Lim.stepR 9 (fun _ => trivial) rfl (by kernel_rfl) (fun _ _ _ _ h => h) hC rfl ?_; apply Exists.intro; refine ⟨?_, ?_⟩
      · rintro w ⟨⟨r1, r2⟩, ⟨r3, r4⟩⟩; go_simp; try with_reducible rfl
      simp only [Act.put, List.setIfInBounds_toArray, List.set_cons_succ, List.set_cons_zero]
      refine Lim.stepR 10 (fun _ => trivial) rfl (by kernel_rfl) (fun _ _ _ _ h => h) hC rfl ?_; apply Exists.intro; refine ⟨?_, ?_⟩
      · rintro w ⟨⟨r1, r2⟩, ⟨r3, r4⟩⟩; go_simp; try with_reducible rfl
      simp only [Act.put, List.setIfInBounds_toArray, List.set_cons_succ, List.set_cons_zero]
      refine Lim.stepR 11 (fun _ => trivial) rfl (by kernel_rfl) (fun _ _ _ _ h => h) hC rfl ?_; apply Exists.intro; refine ⟨?_, ?_⟩
      · rintro w ⟨⟨r1, r2⟩, ⟨r3, r4⟩⟩; go_simp; try with_reducible rfl
      simp only [Act.put, List.setIfInBounds_toArray, List.set_cons_succ, List.set_cons_zero]
      refine Lim.stepR 12 (fun _ => trivial) rfl (by kernel_rfl) (fun _ _ _ _ h => h) hC rfl ?_; apply Exists.intro; refine ⟨?_, ?_⟩
      · rintro w ⟨⟨r1, r2⟩, ⟨r3, r4⟩⟩; go_simp; try with_reducible rfl
      simp only [Act.put, List.setIfInBounds_toArray, List.set_cons_succ, List.set_cons_zero]
      refine Lim.stepX 13 (fun _ => trivial) rfl (by kernel_rfl) rfl rfl (fun K hK => ?_)
      go_simp
      refine hK _ _ ?_
      simp only [Act.put, List.setIfInBounds_toArray, List.set_cons_succ, List.set_cons_zero]
      refine Lim.segC (fun _ => True) [] ?_
      refine Lim.stepR 14 (fun _ => trivial) rfl (by kernel_rfl) (fun _ _ _ _ h => h) trivial rfl ?_; apply Exists.intro; refine ⟨?_, ?_⟩
      · rintro w -; go_simp; try with_reducible rfl
      simp only [Act.put, List.setIfInBounds_toArray, List.set_cons_succ, List.set_cons_zero]
      refine Lim.stepE 15 (fun _ => trivial) rfl (by kernel_rfl) rfl (fun K hK => ?_)   -- E store
      go_simp
      refine hK _ _ trivial ?_
      simp only [Act.put, List.setIfInBounds_toArray, List.set_cons_succ, List.set_cons_zero]
      refine Lim.stepD (by kernel_rfl) ?_
      generalize (((w9.setCell ⟨g, i * 2, none⟩ (.int .i64 y1)).setCell ⟨g, i * 2 + 1, none⟩ (.int .i64 y2)).setCell ⟨g, j * 2, none⟩ (.int .i64 x1)).setCell ⟨g, j * 2 + 1, none⟩ (.int .i64 x2) = w10 at HP ⊢
      clear hC f1 f2 f3 f4 f1' f2' f3' f4' s1 s2 s3 a1 a2 b1 b2
      go_wp2
      go_roundw
      case rel => exact ⟨i + 1, by have := HJ.out; omega, by go_num, by have := HJ.out; congr 1; push_cast; omega, HP⟩
      case measure => simp [intOf]; omega
    · have g1 : decide ((i : Int) < (n : Int) - 1 - i) = false := decide_eq_false hlt
      have HR : Hid (revTo L i = L.reverse) := Lib.hid (revTo_all L (by have := HL.out; omega) (by have := HL.out; omega))
      clear hlt
      go_wp2
      refine bodyPost_end (results_none rfl _ _ _) rfl ?_
      exact ⟨rfl, by have h := hH.out.1; rw [HR.out] at h; exact h, hH.out.2⟩
end Go.Proofs.Ytohjinbgbfggcaa
/-
  What lies in memory while behind turns the rows of counts.
-/
namespace Go.Proofs.Ytohjinbgbfggcaa
open Go.RowKit Go.Shelf
open Lim
attribute [local go_sem] Oper.semAt_some

theorem wpListIn_store_mid {F : Fence} {nF : Nat} {P : Program} {ops : Array Oper} {rest : List Oper} {op : Oper} {a : Act} {w : World} {Q : Exit → Act → World → Prop} (hgd : op.guard = none) (ty : TypeId) (x y : Operand) (ho : op.op = .store ty x y)
    (b o : Nat) (cells : Array Value) (hx : a.eval x = .pointer (some ⟨b, o, none⟩)) (hy : a.eval y = .agg cells)
    (ht : w.there b o cells.size) (hi : (P.info? ty).map (·.size) = some cells.size) (h1 : cells.all (·.oneCell') = true)
    (h : wpListIn F nF P ops Q rest (a.put op.dst undef) (w.setCells b o cells.toList)) : wpListIn F nF P ops Q (op :: rest) a w := by
  refine wpListIn_plain hgd fun K hK => ?_
  unfold Oper.wpIn
  refine ⟨fun f hf => by simp [Oper.about, ho] at hf, ?_⟩
  rw [Oper.semAt_plain F _ _ (by rw [ho]; intro c hc'; cases hc')]
  unfold execOp
  simp only [ho, hx, hy, Instr.storeAt, Instr.sureAddr, Sem.run_bind, Sem.run_pure, Result.andThen_ok, run_storeVar_mid w b o ty cells ht hi h1, Oper.uponIn]
  exact hK _ _ h
theorem cells_new (w : World) (xs : List Value) (t : TypeId) {n : Nat} (hn : w.heap.size = n) : ∀ j u, xs[j]? = some u → (w.alloc (.cells xs.toArray t)).cell? ((⟨n, 0, none⟩ : Addr).add j) = some u := by
  intro j u hj
  subst hn
  rw [Addr.add_mid, Nat.zero_add, World.cell?_alloc_new]
  simpa using hj
theorem row40_one (T : Nat → Nat) : ∀ u ∈ row40 T, u.oneCell' = true := fun u hu => by
  obtain ⟨y, -, rfl⟩ := List.mem_map.1 hu; rfl
/-- a list of one row of counts -/
theorem wpListIn_build_row {F : Fence} {nF : Nat} {ops : Array Oper} {rest : List Oper} {o : Oper} {a : Act} {w : World} {Q : Exit → Act → World → Prop} (hgd : o.guard = none) (x : Operand)
    (ho : o.op = .buildSlice 116 1 #[(0, x)]) (T : Nat → Nat) (hx : a.eval x = .agg (row40 T).toArray)
    (h : wpListIn F nF Try.prog ops Q rest (a.put o.dst (.slice (some ⟨w.heap.size, 0, none⟩) 1 1)) (w.alloc (.cells (row40 T).toArray 119))) : wpListIn F nF Try.prog ops Q (o :: rest) a w := by
  refine wpListIn_plain hgd fun K hK => ?_
  obtain ⟨i0, hi, hz0, hz1, hz2⟩ := info_parts Try.infoCounts
  have hfill : Instr.fill (fun i => some (i * i0.size, i0.size)) ((Array.range (1 * i0.size)).map ((Value.agg (List.replicate 40 (Value.int .i64 0)).toArray).cells[· % (Value.agg (List.replicate 40 (Value.int .i64 0)).toArray).cells.size]!)) [(0, .agg (row40 T).toArray)] = some (row40 T).toArray := by
    have hc40 : ∀ v ∈ [Value.agg (row40 T).toArray], v.cells.size = 40 := fun v hv => by
      obtain rfl : v = _ := by simpa using hv
      show (row40 T).toArray.size = 40
      simp [row40_len]
    have h1 := Great.fill_whole (s := 40) (by omega) [Value.agg (row40 T).toArray] ((Array.range (1 * i0.size)).map ((Value.agg (List.replicate 40 (Value.int .i64 0)).toArray).cells[· % (Value.agg (List.replicate 40 (Value.int .i64 0)).toArray).cells.size]!)) hc40 (by simp [hz1])
    rw [hz1] at h1 ⊢
    simpa [Value.cells] using h1
  have hr := run_buildSlice (P := Try.prog) w 116 119 1 #[(0, .agg (row40 T).toArray)] (row40 T).toArray i0 _ Try.underlying116 hi hz0 (by rw [hz1]; decide) (by rw [hz1]; decide) hfill
  unfold Oper.wpIn
  refine ⟨fun f hf => by simp [Oper.about, ho] at hf, ?_⟩
  rw [Oper.semAt_plain F _ _ (by rw [ho]; intro c hc'; cases hc')]
  unfold execOp
  have he : (#[(0, x)] : Array (Nat × Operand)).map (fun (i, x) => (i, a.eval x)) = #[(0, .agg (row40 T).toArray)] := by simp [hx]
  simp only [ho, Sem.run_bind, Sem.run_pure, Result.andThen_ok, he, hr, Oper.uponIn]
  exact hK _ _ h
/-- the world while the rows of counts are turned -/
structure BcM (w W0 : World) (b9 S : Nat) (v9 : Value) (R : List (Nat → Nat)) (T : Nat → Nat) (W : World) : Prop where
  be : Below w.heap.size w W
  like : ∀ p : Addr, p.block < S → p.block ≠ b9 → p.block ≠ b9 + 1 → W.cell? p = W0.cell? p
  sz : S ≤ W.heap.size
  lo : w.heap.size ≤ b9 ∧ b9 + 1 < S
  c9 : W.cell? ⟨b9, 0, none⟩ = some v9
  f9 : W.frozen? ⟨b9, 0, none⟩ = false
  la : ∀ j, j < 40 → W.cell? ⟨b9 + 1, j, none⟩ = some (.int .i64 (T j))
  lf : ∀ j, W.frozen? ⟨b9 + 1, j, none⟩ = false
  o9 : W.ownsRow S 119 40 v9 R.length (R.flatMap row40)
section
variable {w W0 : World} {b9 S : Nat} {v9 : Value} {R : List (Nat → Nat)} {T : Nat → Nat} {W W' : World}
theorem BcM.grow (h : BcM w W0 b9 S v9 R T W) (hb : Below W.heap.size W W') : BcM w W0 b9 S v9 R T W' :=
  ⟨h.be.trans (hb.mono h.be.size), fun p hp h1 h2 => (hb.cell (Nat.lt_of_lt_of_le hp h.sz)).trans (h.like p hp h1 h2), Nat.le_trans h.sz hb.size, h.lo, hb.on h.c9,
   (hb.frozen (p := ⟨b9, 0, none⟩) (by have := h.lo; have := h.sz; show b9 < _; omega)).trans h.f9, fun j hj => hb.on (h.la j hj), fun j => (hb.frozen (p := ⟨b9 + 1, j, none⟩) (by have := h.lo; have := h.sz; show b9 + 1 < _; omega)).trans (h.lf j), owns_below h.o9 hb⟩
theorem BcM.steady (h : BcM w W0 b9 S v9 R T W) {B : Nat} (hs : Steady B W W') (hB : w.heap.size ≤ B) (hSB : S ≤ B) : BcM w W0 b9 S v9 R T W' := by
  have hz := h.sz
  refine ⟨h.be.steady hs hB h.be.size, fun p hp h1 h2 => ?_, Nat.le_trans h.sz hs.size, h.lo, hs.cell h.c9, (hs.frozen h.c9).trans h.f9, fun j hj => hs.cell (h.la j hj), fun j => ?_, hs.owns h.o9⟩
  · rw [← h.like p hp h1 h2]
    have hl : p.block < W.heap.size := by omega
    exact World.cell?_of_block (w := W) ((hs.same p.block _ (Array.getElem?_eq_getElem hl) (.inl (by omega))).trans (Array.getElem?_eq_getElem hl).symm)
  · have hl : b9 + 1 < W.heap.size := by have := h.lo; omega
    rw [World.frozen?_of_block (w := W) ((hs.same (b9 + 1) _ (Array.getElem?_eq_getElem hl) (.inl (by have := h.lo; omega))).trans (Array.getElem?_eq_getElem hl).symm)]
    exact h.lf j
/-- from here on the rows lie behind what is there -/
theorem BcM.rebase (h : BcM w W0 b9 S (.slice none 0 0) [] T W) : BcM w W b9 W.heap.size (.slice none 0 0) [] T W :=
  ⟨h.be, fun _ _ _ _ => rfl, Nat.le_refl _, ⟨h.lo.1, by have := h.lo.2; have := h.sz; omega⟩, h.c9, h.f9, h.la, h.lf, ownsRow_zero _ _ _ _⟩
theorem BcM.start {W4 : World} (hb : Below w.heap.size w W4) (z : Array Value) (hz : z = Array.replicate 40 (.int .i64 0)) :
    BcM w ((W4.alloc (.cells #[.slice none 0 0] 116)).alloc (.cells z 119)) W4.heap.size (W4.heap.size + 2) (.slice none 0 0) [] (fun _ => 0) ((W4.alloc (.cells #[.slice none 0 0] 116)).alloc (.cells z 119)) := by
  subst hz
  have hs : (W4.alloc (.cells #[.slice none 0 0] 116)).heap.size = W4.heap.size + 1 := by simp
  refine ⟨(hb.alloc hb.size _).alloc (by simp; have := hb.size; omega) _, fun _ _ _ _ => rfl, by simp, ⟨hb.size, by omega⟩, ?_, ?_, fun j hj => ?_, fun j => ?_, ownsRow_zero _ _ _ _⟩
  · rw [World.cell?_alloc_old _ _ _ (by show W4.heap.size ≠ _; rw [hs]; omega)]; simp [go_sem]
  · rw [World.frozen?_alloc_old _ _ _ (by show W4.heap.size ≠ _; rw [hs]; omega)]; exact World.frozen?_alloc_new ..
  · have h1 := World.cell?_alloc_new (W4.alloc (.cells #[.slice none 0 0] 116)) (Array.replicate 40 (Value.int .i64 0)) 119 j
    rw [hs] at h1
    rw [h1]; simp [hj]
  · have h1 : ((W4.alloc (.cells #[.slice none 0 0] 116)).alloc (.cells (Array.replicate 40 (.int .i64 0)) 119)).frozen? ⟨(W4.alloc (.cells #[.slice none 0 0] 116)).heap.size, j, none⟩ = false := World.frozen?_alloc_new ..
    rw [hs] at h1; exact h1
theorem BcM.put (h : BcM w W0 b9 S v9 R T W) {k : Nat} (hk : k < 40) (x : Nat) : BcM w W0 b9 S v9 R (fun y => if y = k then x else T y) (W.setCell ⟨b9 + 1, k, none⟩ (.int .i64 x)) := by
  have hlo := h.lo
  refine ⟨h.be.setCell (p := ⟨b9 + 1, k, none⟩) (by show w.heap.size ≤ b9 + 1; omega) _, fun p hp h1 h2 => by rw [World.cell?_setCell_other _ _ _ _ (fun e => h2 (congrArg Addr.block e).symm)]; exact h.like p hp h1 h2, ?_, h.lo, ?_, by rw [World.frozen?_setCell]; exact h.f9, fun j hj => ?_, fun j => by rw [World.frozen?_setCell]; exact h.lf j, ?_⟩
  · have := h.sz; simp [World.setCell]; omega
  · rw [World.cell?_setCell_other _ _ _ _ (fun e => by have := congrArg Addr.block e; simp only at this; omega)]; exact h.c9
  · show (W.setCell _ _).cell? _ = some (.int .i64 ((if j = k then x else T j : Nat) : Int))
    by_cases e : j = k
    · rw [if_pos e, e]; exact World.cell?_setCell_same' _ _ _ (by rw [h.la k hk]; rfl)
    · rw [if_neg e, World.cell?_setCell_other _ _ _ _ (fun e' => e (by have := congrArg Addr.off e'; simp only at this; omega))]; exact h.la j hj
  · exact owns_setCellB h.o9 _ (p := b9 + 1) (j := k) hlo.2
theorem owns_setCells {base e size n b : Nat} {v : Value} {xs : List Value} (hb : b < base) : ∀ (vs : List Value) (o : Nat) (w : World), w.ownsRow base e size v n xs → (w.setCells b o vs).ownsRow base e size v n xs
  | [], _, _, h => h
  | u :: vs, o, w, h => owns_setCells hb vs (o + 1) _ (owns_setCellB h u (p := b) (j := o) hb)
theorem size_setCells (b : Nat) : ∀ (vs : List Value) (o : Nat) (w : World), (w.setCells b o vs).heap.size = w.heap.size
  | [], _, _ => rfl
  | u :: vs, o, w => by rw [World.setCells, size_setCells b vs]; simp [World.setCell]
theorem keeps_setCells (b : Nat) : ∀ (vs : List Value) (o : Nat) (w : World), KeepsOthers w (w.setCells b o vs)
  | [], _, w => .refl w
  | v :: vs, o, w => (KeepsOthers.setCell w ⟨b, o, none⟩ v).trans (keeps_setCells b vs (o + 1) _)
theorem BcM.lay (h : BcM w W0 b9 S v9 R T W) (T' : Nat → Nat) : BcM w W0 b9 S v9 R T' (W.setCells (b9 + 1) 0 (row40 T')) := by
  have hlo := h.lo
  refine ⟨below_setCells' (by omega) _ _ _ h.be, fun p hp h1 h2 => by rw [World.cell?_setCells_out _ _ _ _ _ (fun e _ => absurd e h2)]; exact h.like p hp h1 h2, by rw [size_setCells]; exact h.sz, h.lo, ?_, by rw [setCells_frozen]; exact h.f9, fun j hj => ?_, fun j => by rw [setCells_frozen]; exact h.lf j, owns_setCells hlo.2 _ _ _ h.o9⟩
  · rw [World.cell?_setCells_out _ _ _ _ _ (fun e _ => absurd e (by show b9 ≠ b9 + 1; omega))]; exact h.c9
  · have h1 := World.cell?_setCells_in (b9 + 1) (row40 T') 0 W (fun i hi => by rw [Nat.zero_add, h.la i (by rw [row40_len] at hi; exact hi)]; rfl) j (by rw [row40_len]; exact hj)
    rw [Nat.zero_add] at h1
    rw [h1, ← List.getElem?_eq_getElem, row40_at _ hj]
theorem BcM.range (h : BcM w W0 b9 S v9 R T W) : W.rangeAt (b9 + 1) 0 (row40 T) := fun j v hj => by
  have hj40 : j < 40 := by have := (List.getElem?_eq_some_iff.1 hj).1; rw [row40_len] at this; exact this
  rw [row40_at T hj40] at hj
  rw [← hj, Nat.zero_add]
  exact h.la j hj40
theorem BcM.all {a9 : Option Addr} {pl c9 : Nat} {v' : Value} (h : BcM w W0 b9 S (.slice a9 pl c9) R T W) (hpl : pl = R.length) (hown : W'.ownsRow S 119 40 v' (pl + 1) (R.flatMap row40 ++ row40 T)) (hgr : (W.alloc (.cells (row40 T).toArray 119)).grownBy W' (Value.slice a9 pl c9).ownBlock) :
    BcM w W0 b9 S v' (R ++ [T]) T (W'.setCell ⟨b9, 0, none⟩ v') ∧ W'.cell? ⟨b9, 0, none⟩ = some (.slice a9 pl c9) ∧ W'.frozen? ⟨b9, 0, none⟩ = false ∧ KeepsOthers W (W'.setCell ⟨b9, 0, none⟩ v') := by
  have hb : Below W.heap.size W (W.alloc (.cells (row40 T).toArray 119)) := (Below.refl _ W).alloc (Nat.le_refl _) _
  have g := h.grow hb
  have ho := g.o9
  rw [← hpl] at ho
  have b2 : Below S (W.alloc (.cells (row40 T).toArray 119)) W' := (Below.refl S _).grown hgr g.sz (fun k e => (ho.lt k e).1)
  have hlo := h.lo
  have hz := g.sz
  refine ⟨⟨(g.be.trans (b2.mono (by omega))).setCell (p := ⟨b9, 0, none⟩) hlo.1 _, fun p hp h1 h2 => ?_, ?_, h.lo, World.cell?_setCell_same' _ _ _ (by rw [b2.cell (p := ⟨b9, 0, none⟩) (by show b9 < _; omega), g.c9]; rfl), ?_, fun j hj => ?_, fun j => ?_, ?_⟩, (b2.cell (p := ⟨b9, 0, none⟩) (by show b9 < _; omega)).trans g.c9, (b2.frozen (p := ⟨b9, 0, none⟩) (by show b9 < _; omega)).trans g.f9, ((keeps_of_below hb).trans (keeps_of_row ho hgr)).trans (KeepsOthers.setCell _ _ _)⟩
  · rw [World.cell?_setCell_other _ _ _ _ (fun e => h1 (congrArg Addr.block e).symm), b2.cell hp]; exact g.like p hp h1 h2
  · have := b2.size; simp [World.setCell]; omega
  · rw [World.frozen?_setCell, b2.frozen (p := ⟨b9, 0, none⟩) (by show b9 < _; omega)]; exact g.f9
  · rw [World.cell?_setCell_other _ _ _ _ (fun e => by have := congrArg Addr.block e; simp only at this; omega), b2.cell (p := ⟨b9 + 1, j, none⟩) hlo.2]; exact g.la j hj
  · rw [World.frozen?_setCell, b2.frozen (p := ⟨b9 + 1, j, none⟩) hlo.2]; exact g.lf j
  · have h1 := owns_setCellB hown v' (p := b9) (j := 0) (by omega)
    rw [List.length_append, ← hpl, List.flatMap_append]
    simpa using h1
end
theorem CebwC.like {q b n c : Nat} {X : Nat → Nat → Nat} {w W : World} {S b9 : Nat} (h : CebwC q b n c X w) (hl : ∀ p : Addr, p.block < S → p.block ≠ b9 → p.block ≠ b9 + 1 → W.cell? p = w.cell? p) (hq : q < S) (hb : b < S) (hq9 : b9 + 1 < q) (hb9 : b9 + 1 < b) : CebwC q b n c X W :=
  ⟨(hl ⟨q, 0, none⟩ hq (by show q ≠ b9; omega) (by show q ≠ b9 + 1; omega)).trans h.1, fun j hj k v hk => (hl ⟨b, j * 40 + k, none⟩ hb (by show b ≠ b9; omega) (by show b ≠ b9 + 1; omega)).trans (h.2 j hj k v hk)⟩
/-- a row of counts is stored in a new variable of its own -/
theorem store_new {W : World} (z : Array Value) (hz : z = Array.replicate 40 (.int .i64 0)) (X : Nat → Nat) :
    (W.alloc (.cells z 119)).there W.heap.size 0 (row40 X).toArray.size ∧ Below W.heap.size W ((W.alloc (.cells z 119)).setCells W.heap.size 0 (row40 X).toArray.toList) ∧
      (∀ j, j < 40 → ((W.alloc (.cells z 119)).setCells W.heap.size 0 (row40 X).toArray.toList).cell? ⟨W.heap.size, j, none⟩ = some (.int .i64 (X j))) := by
  subst hz
  have hc : ∀ j, j < 40 → (W.alloc (.cells (Array.replicate 40 (.int .i64 0)) 119)).cell? ⟨W.heap.size, j, none⟩ = some (.int .i64 0) := fun j hj => by
    rw [World.cell?_alloc_new]; simp [hj]
  have hl : (row40 X).toArray.size = 40 := by simp [row40_len]
  refine ⟨fun j hj => ?_, below_setCells' (Nat.le_refl _) _ _ _ ((Below.refl _ W).alloc (Nat.le_refl _) _), fun j hj => ?_⟩
  · rw [hl] at hj
    rw [Nat.zero_add]
    exact ⟨by rw [hc j hj]; rfl, World.frozen?_alloc_new ..⟩
  · have h1 := World.cell?_setCells_in W.heap.size (row40 X) 0 (W.alloc (.cells (Array.replicate 40 (.int .i64 0)) 119)) (fun i hi => by rw [Nat.zero_add, hc i (by rw [row40_len] at hi; exact hi)]; rfl) j (by rw [row40_len]; exact hj)
    rw [Nat.zero_add] at h1
    show ((W.alloc _).setCells W.heap.size 0 (row40 X)).cell? _ = _
    rw [h1, ← List.getElem?_eq_getElem, row40_at _ hj]
end Go.Proofs.Ytohjinbgbfggcaa
