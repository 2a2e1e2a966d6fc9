/-
  Parts of the proof, in the order in which they build: CoC.
-/
import Derived.Scope
import Derived.Test.YtiacgaplhndlnaaF36
set_option linter.unusedVariables false
set_option linter.unusedSimpArgs false
namespace Go.Proofs.Ytiacgaplhndlnaa
open Go.RowKit Go.Shelf
open Lim


/-- a case that is right, without surveys -/
structure CaseOk (C : Nat) (S : List (Nat × Nat)) : Prop where
  c : 1 ≤ C ∧ C ≤ 14
  l : S.length ≤ 60
  lt : ∀ s ∈ S, s.1 < C ∧ s.2 < C
  nd : S.Nodup
theorem CaseOk.at {C : Nat} {S : List (Nat × Nat)} (h : CaseOk C S) {k : Nat} (hk : k < S.length) : (S.getD k (0, 0)).1 < C ∧ (S.getD k (0, 0)).2 < C := by
  have : S.getD k (0, 0) = S[k] := by rw [List.getD_eq_getElem?_getD, List.getElem?_eq_getElem hk]; rfl
  rw [this]
  exact h.lt _ (List.getElem_mem _)
theorem CaseOk.new {C : Nat} {S : List (Nat × Nat)} (h : CaseOk C S) {k : Nat} (hk : k < S.length) : decide (((S.getD k (0, 0)).1, (S.getD k (0, 0)).2) ∈ S.take k) = false := by
  have : S.getD k (0, 0) = S[k] := by rw [List.getD_eq_getElem?_getD, List.getElem?_eq_getElem hk]; rfl
  rw [this, decide_eq_false_iff_not]
  intro hm
  obtain ⟨j, hj, e⟩ := List.mem_iff_getElem.1 hm
  rw [List.length_take] at hj
  rw [List.getElem_take] at e
  exact List.pairwise_iff_getElem.1 h.nd j k (by omega) hk (by omega) e
set_option maxHeartbeats 400000 in
theorem chk1_any {C sn sc q : Nat} {sa : Option Addr} {x y : Int} {w : World} (hC : C ≤ 1000) (hq : w.heap[q]? = some (.cells #[.int .i64 C, .slice sa sn sc, .slice none 0 0] 36 (0, 0))) (hx : inB x 0 ((C : Int) - 1) = true) (hy : inB y 0 ((C : Int) - 1) = true) :
    Calls Try.prog 135 #[.agg #[.int .i64 x, .int .i64 y], .pointer (some ⟨q, 0, none⟩)] w fun e w' => e = .returned (.bool false) ∧ Below w.heap.size w w' := by
  have hb := (Below.refl _ w).alloc (Nat.le_refl _) (.cells #[.int .i64 x, .int .i64 y] 38)
  have HB := Lib.hid hb
  have H1 := Lib.hid (And.intro hx hy)
  have c0 : (w.alloc (.cells #[.int .i64 x, .int .i64 y] 38)).cell? ⟨q, 0, none⟩ = some (.int .i64 C) := cell_on hb (by simp [World.cell?, hq])
  have c1 : (w.alloc (.cells #[.int .i64 x, .int .i64 y] 38)).cell? ⟨q, 1, none⟩ = some (.slice sa sn sc) := cell_on hb (by simp [World.cell?, hq])
  have c2 : (w.alloc (.cells #[.int .i64 x, .int .i64 y] 38)).cell? ⟨q, 2, none⟩ = some (.slice none 0 0) := cell_on hb (by simp [World.cell?, hq])
  have d0 : (w.alloc (.cells #[.int .i64 x, .int .i64 y] 38)).cell? ⟨w.heap.size, 0, none⟩ = some (.int .i64 x) := by simp [go_sem]
  have d1 : (w.alloc (.cells #[.int .i64 x, .int .i64 y] 38)).cell? ⟨w.heap.size, 1, none⟩ = some (.int .i64 y) := by simp [go_sem]
  clear hx hy hq hb
  go_enter Try.func135, Try.ntmps135
  generalize hW : w.alloc (.cells #[.int .i64 x, .int .i64 y] 38) = w1 at HB c0 c1 c2 d0 d1
  go_wp2_with fail
  refine (strange_any hC _ _).mono ?_
  rw [H1.out.1]
  rintro e w2 ⟨rfl, hb⟩
  have HB2 := Lib.hid (HB.out.trans (hb.mono HB.out.size))
  replace c0 := cell_on hb c0
  replace c1 := cell_on hb c1
  replace c2 := cell_on hb c2
  replace d1 := cell_on hb d1
  clear hb d0
  go_wp2_with fail
  refine (strange_any hC _ _).mono ?_
  rw [H1.out.2]
  rintro e w3 ⟨rfl, hb⟩
  have HB3 := Lib.hid (HB2.out.trans (hb.mono HB2.out.size))
  clear hb
  go_wp2
  go_ret
  exact ⟨rfl, HB3.out⟩
set_option maxHeartbeats 1000000 in
theorem noneS_any {B C sn sc q : Nat} {sa : Option Addr} {S : List (Nat × Nat)} {v : Value} {w : World} (h : CaseOk C S) (hB : B ≤ w.heap.size) (hv : RS B w v S.length (spans (stk S))) (hq : w.heap[q]? = some (.cells #[.int .i64 C, .slice sa sn sc, .slice none 0 0] 36 (0, 0))) :
    Calls Try.prog 134 #[v, .func (.func 135) #[] #[.pointer (some ⟨q, 0, none⟩)]] w fun e w' => e = .returned (.bool true) ∧ Below w.heap.size w w' := by
  have hv' : RS B w v (stk S).length (spans (stk S)) := by rw [stk_length]; exact hv
  have hs : Says 135 #[.pointer (some ⟨q, 0, none⟩)] (stk S).length (fun k => .agg #[.int .i64 ((stk S).getD k (0, 0)).1, .int .i64 ((stk S).getD k (0, 0)).2]) (fun _ => false) w := fun k hk W hW => by
    rw [stk_length] at hk
    have h1 := h.at hk
    have h2 := h.c
    show Calls Try.prog 135 #[.agg #[.int .i64 ((stk S).getD k (0, 0)).1, .int .i64 ((stk S).getD k (0, 0)).2], .pointer (some ⟨q, 0, none⟩)] W _
    rw [stk_at hk]
    exact chk1_any (by omega) ((hW.block q (Array.getElem?_eq_some_iff.1 hq).1).trans hq) (inB_true (by omega) (by omega)) (inB_true (by omega) (by omega))
  have H := Lib.hid (containsFunc_strikes (f := 135) (enters_of Try.func135 (by kernel_rfl) rfl) (by rw [stk_length]; have := h.l; omega) hv' hB hs)
  have e : (List.range (stk S).length).any (fun _ => false) = false := by simp
  rw [e] at H
  obtain ⟨a, cap, rfl, -⟩ := hv
  clear hs hv' hq e
  go_enter Try.func134, Try.ntmps134
  go_wp2_with fail
  refine H.out.mono ?_
  rintro e w1 ⟨rfl, hb⟩
  have HB := Lib.hid hb
  clear hb
  go_wp2
  go_ret
  exact ⟨rfl, HB.out⟩

set_option maxRecDepth 20000 in
set_option maxHeartbeats 2000000 in
theorem ccheck_any {B C sc : Nat} {sa : Option Addr} {S : List (Nat × Nat)} {w : World} (h : CaseOk C S) (hB : B ≤ w.heap.size) (hv : RS B w (.slice sa S.length sc) S.length (spans (stk S))) :
    Calls Try.prog 85 #[.agg #[.int .i64 C, .slice sa S.length sc, .slice none 0 0]] w fun e w' => e = .returned (.int .i64 0) ∧ Below w.heap.size w w' := by
  have hb0 := (Below.refl _ w).alloc (Nat.le_refl _) (.cells #[.int .i64 C, .slice sa S.length sc, .slice none 0 0] 36)
  have HB0 := Lib.hid hb0
  have c0 : (w.alloc (.cells #[.int .i64 C, .slice sa S.length sc, .slice none 0 0] 36)).cell? ⟨w.heap.size, 0, none⟩ = some (.int .i64 C) := by simp [go_sem]
  have c1 : (w.alloc (.cells #[.int .i64 C, .slice sa S.length sc, .slice none 0 0] 36)).cell? ⟨w.heap.size, 1, none⟩ = some (.slice sa S.length sc) := by simp [go_sem]
  have c2 : (w.alloc (.cells #[.int .i64 C, .slice sa S.length sc, .slice none 0 0] 36)).cell? ⟨w.heap.size, 2, none⟩ = some (.slice none 0 0) := by simp [go_sem]
  have HQ : Hid ((w.alloc (.cells #[.int .i64 C, .slice sa S.length sc, .slice none 0 0] 36)).heap[w.heap.size]? = some (.cells #[.int .i64 C, .slice sa S.length sc, .slice none 0 0] 36 (0, 0))) := Lib.hid (heap_alloc_new _ _)
  have HV := Lib.hid (hv.below (hb0.mono hB))
  have HC := Lib.hid h
  have h60 : decide ((60 : Int) < S.length) = false := by have := h.l; simp; omega
  have hfr : inB C 1 14 = true := inB_true (by have := h.c; omega) (by have := h.c; omega)
  have HFR := Lib.hid hfr
  clear hb0 hv h hfr
  go_enter Try.func85, Try.ntmps85
  generalize hW : w.alloc (.cells #[.int .i64 C, .slice sa S.length sc, .slice none 0 0] 36) = w1 at HB0 c0 c1 c2 HQ HV
  go_wp2
  go_step3
  go_wp2_with fail
  refine (cfrom_any _ _ _ _).mono ?_
  rw [HFR.out]
  rintro e w2 ⟨rfl, rfl⟩
  have CN := Lib.hid (noneS_any (B := w1.heap.size) (w := w1) HC.out (Nat.le_refl _) (HV.out.mono (Nat.le_trans hB HB0.out.size)) HQ.out)
  go_wp2_with fail
  refine CN.out.mono ?_
  rintro e w3 ⟨rfl, hb⟩
  have HB3 := Lib.hid (HB0.out.trans (hb.mono HB0.out.size))
  replace c0 := cell_on hb c0
  replace c1 := cell_on hb c1
  replace c2 := cell_on hb c2
  have HV3 := Lib.hid ((HV.out.mono (Nat.le_trans hB HB0.out.size)).below hb)
  have HW13a := hb.size
  clear hb CN HQ h60
  go_wp2_with fail
  rw [run_makeMap]
  have HM : Hid (Below w3.heap.size w3 (w3.alloc (.map #[] 0)) ∧ MapT (w3.alloc (.map #[] 0)) w3.heap.size 0 (fun a c => decide ((a, c) ∈ S.take 0))) := Lib.hid ⟨(Below.refl _ _).alloc (Nat.le_refl _) _, by simpa using MapT.made w3⟩
  have HS1 : Hid (w.heap.size < w3.heap.size) := Lib.hid (by have h1 := HB3.out.size; have := World.block_lt_of_cell? _ _ c0; exact this)
  have HW13 := Lib.hid HW13a
  clear HW13a
  have C1 := Lib.hid c1
  have C2 := Lib.hid c2
  generalize w3.alloc (.map #[] 0) = w4 at HM ⊢
  obtain ⟨bm, hbm⟩ : ∃ b, b = w3.heap.size := ⟨_, rfl⟩
  have HBM : Hid (bm = w3.heap.size) := Lib.hid hbm
  rw [← hbm] at HM ⊢
  clear hbm
  replace c1 := HM.out.1.cell (p := ⟨w.heap.size, 1, none⟩) (by rw [HBM.out]; exact HS1.out) |>.trans c1
  replace c2 := HM.out.1.cell (p := ⟨w.heap.size, 2, none⟩) (by rw [HBM.out]; exact HS1.out) |>.trans c2
  clear c0
  go_wp2
  go_step3
  go_wp2_with fail
  go_loopw [4, 35] (fun ev iv wr => ∃ k : Nat, k ≤ S.length ∧ ev = .int .i64 0 ∧ iv = .int .i64 k ∧ Hid (Below bm w3 wr ∧ MapT wr bm k (fun a c => decide ((a, c) ∈ S.take k)))) (fun _ iv _ => S.length - (intOf iv).toNat)
  case atStart => exact ⟨0, Nat.zero_le _, rfl, rfl, HM⟩
  case round =>
    clear HM
    obtain ⟨k, hk, rfl, rfl, hI⟩ := hrel
    replace c1 : wr.cell? ⟨w.heap.size, 1, none⟩ = some (.slice sa S.length sc) := by
      exact (hI.out.1.cell (p := ⟨w.heap.size, 1, none⟩) (by rw [HBM.out]; exact HS1.out)).trans C1.out
    by_cases hlt : k < S.length
    · have hlt' : (k : Int) < S.length := by omega
      obtain ⟨sb, so, cap, e, s0, s1⟩ := strike_cells (HV3.out.below (B := w1.heap.size) (w' := wr) (hI.out.1.mono (by rw [HBM.out]; exact HW13.out))) hlt
      obtain ⟨x, hx⟩ : ∃ x, x = (S.getD k (0, 0)).1 := ⟨_, rfl⟩
      obtain ⟨y, hy⟩ : ∃ y, y = (S.getD k (0, 0)).2 := ⟨_, rfl⟩
      rw [← hx] at s0
      rw [← hy] at s1
      simp only [Value.slice.injEq, true_and] at e
      obtain ⟨rfl, rfl⟩ := e
      have HXY : Hid (x < 1000 ∧ y < 1000 ∧ decide ((x, y) ∈ S.take k) = false ∧ ∀ a c, decide ((a, c) ∈ S.take (k + 1)) = if a = x ∧ c = y then true else decide ((a, c) ∈ S.take k)) := Lib.hid (by
        have h1 := HC.out.at hlt
        have h2 := HC.out.new hlt
        have h3 := HC.out.c
        rw [← hx, ← hy] at h1 h2
        refine ⟨by omega, by omega, h2, fun a c => ?_⟩
        have e : S.getD k (0, 0) = S[k] := by rw [List.getD_eq_getElem?_getD, List.getElem?_eq_getElem hlt]; rfl
        rw [List.take_succ_eq_append_getElem hlt, ← e]
        by_cases e2 : a = x ∧ c = y
        · rw [if_pos e2, decide_eq_true_iff]
          rw [e2.1, e2.2, hx, hy]
          exact List.mem_append_right _ (List.mem_singleton.2 rfl)
        · rw [if_neg e2, decide_eq_decide, List.mem_append]
          refine ⟨fun h => h.elim id (fun h => absurd (List.mem_singleton.1 h) (fun h => e2 ?_)), .inl⟩
          rw [hx, hy, ← h]
          exact ⟨rfl, rfl⟩)
      clear hx hy
      have hb5 := (Below.refl _ wr).alloc (Nat.le_refl _) (.cells #[.int .i64 x, .int .i64 y] 38)
      have HM5 : Hid (Below bm w3 (wr.alloc (.cells #[.int .i64 x, .int .i64 y] 38)) ∧ MapT (wr.alloc (.cells #[.int .i64 x, .int .i64 y] 38)) bm k (fun a c => decide ((a, c) ∈ S.take k))) := Lib.hid ⟨hI.out.1.trans (hb5.mono (Nat.le_of_lt hI.out.2.lt)), hI.out.2.same (hb5.block bm hI.out.2.lt)⟩
      have b0 : (wr.alloc (.cells #[.int .i64 x, .int .i64 y] 38)).cell? ⟨wr.heap.size, 0, none⟩ = some (.int .i64 x) := by simp [go_sem]
      have b1 : (wr.alloc (.cells #[.int .i64 x, .int .i64 y] 38)).cell? ⟨wr.heap.size, 1, none⟩ = some (.int .i64 y) := by simp [go_sem]
      clear hb5
      go_upto_region 10 with (fail)
      generalize wr.alloc (.cells #[.int .i64 x, .int .i64 y] 38) = w5 at HM5 b0 b1 ⊢
      have hl := HM5.out.2.lookup HXY.out.1 HXY.out.2.1
      rw [HXY.out.2.2.1] at hl
      obtain ⟨w6, hu, hm6, hg6⟩ := HM5.out.2.update (v := true) (by have := HC.out.l; unfold maxLen; omega) HXY.out.1 HXY.out.2.1
      have HM6 : Hid (Below bm w3 w6 ∧ MapT w6 bm (k + 1) (fun a c => decide ((a, c) ∈ S.take (k + 1)))) := Lib.hid ⟨HM5.out.1.trans ((Sep.of_grown hg6).below (Nat.le_of_lt HM5.out.2.lt) (fun j e => by cases e; exact Nat.le_refl _)), by
        obtain ⟨D, h1, h2⟩ := hm6
        exact ⟨D, h1, fun a c ha hc => by rw [h2 a c ha hc]; show DataW.lit (Lit.bool (if a = x ∧ c = y then true else decide ((a, c) ∈ S.take k))) = DataW.lit (Lit.bool (decide ((a, c) ∈ S.take (k + 1)))); rw [HXY.out.2.2.2 a c]⟩⟩
      have HCL := Lib.hid (And.intro HC.out.l hlt)
      clear hm6 hg6 HM5
      have hk60 : (k : Int) < 60 := by have := HCL.out; omega
      go_wp2_with fail
      go_roundw
      case rel => exact ⟨k + 1, by omega, rfl, by go_num, HM6⟩
      case measure => simp [intOf]; omega
    · have hlt' : ¬ (k : Int) < S.length := by omega
      have HBE : Hid (Below bm w3 wr) := Lib.hid hI.out.1
      have c2' : wr.cell? ⟨w.heap.size, 2, none⟩ = some (.slice none 0 0) := (hI.out.1.cell (p := ⟨w.heap.size, 2, none⟩) (by rw [HBM.out]; exact HS1.out)).trans C2.out
      clear c2
      go_wp2_with fail
      go_loopw [4, 7] (fun ev iv W => ev = .int .i64 0 ∧ iv = .int .i64 0 ∧ W = wr) (fun _ _ _ => 0)
      case atStart => exact ⟨rfl, rfl, rfl⟩
      case round =>
        obtain ⟨rfl, rfl, rfl⟩ := hrel
        go_wp2_with fail
        dsimp only [Exit.noGoto]
        go_ret
        exact ⟨rfl, HB3.out.trans (HBE.out.mono (by rw [HBM.out]; exact Nat.le_of_lt HS1.out))⟩
end Go.Proofs.Ytiacgaplhndlnaa
