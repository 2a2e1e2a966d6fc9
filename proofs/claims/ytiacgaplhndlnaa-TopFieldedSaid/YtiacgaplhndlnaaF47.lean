/-
  Parts of the proof, in the order in which they build: CoL.
-/
import Derived.Laws.IdiomCopy
import Derived.Test.YtiacgaplhndlnaaF46
import Derived.Test.YtiacgaplhndlnaaF10
set_option linter.unusedVariables false
set_option linter.unusedSimpArgs false
namespace Go.Proofs.Ytiacgaplhndlnaa
open Go Go.RowKit Go.Shelf
open Lim
attribute [local go_sem] Oper.semAt_some

theorem size_setCellsT (b : Nat) : ∀ (vs : List Value) (o : Nat) (w : World), (w.setCells b o vs).heap.size = w.heap.size
  | [], _, _ => rfl
  | v :: vs, o, w => by
    show ((w.setCell ⟨b, o, none⟩ v).setCells b (o + 1) vs).heap.size = _
    rw [size_setCellsT b vs]
    simp [World.setCell]
theorem below_setCellsT {w W : World} {B b : Nat} (h : Below B w W) (hb : B ≤ b) : ∀ (vs : List Value) (o : Nat), Below B w (W.setCells b o vs)
  | [], _ => h
  | v :: vs, o => below_setCellsT (W := W.setCell ⟨b, o, none⟩ v) (h.setCell (p := ⟨b, o, none⟩) hb _) hb vs (o + 1)
theorem cells_farT {b o : Nat} {vs : List Value} {k j : Nat} : ∀ {w : World}, b ≠ k → (w.setCells b o vs).cell? ⟨k, j, none⟩ = w.cell? ⟨k, j, none⟩ := by
  induction vs generalizing o with
  | nil => intro w _; rfl
  | cons v vs ih => intro w h; exact (ih (o := o + 1) h).trans (setCell_far _ _ h)
theorem DeskAt.fillF {w : World} {b C : Nat} {sv : Value} {G R : List Int} (h : DeskAt w b C sv (List.replicate 14 0) R) (hG : G.length ≤ 14) : DeskAt (w.setCells b 31 (ints G)) b C sv G R := by
  have hl : (ints G).length = G.length := ints_length G
  have hs : ∀ i, i < (ints G).length → (w.cell? ⟨b, 31 + i, none⟩).isSome = true := fun i hi => by rw [h.fo i (by omega)]; rfl
  have out : ∀ j, j < 31 ∨ 45 ≤ j → (w.setCells b 31 (ints G)).cell? ⟨b, j, none⟩ = w.cell? ⟨b, j, none⟩ := fun j hj => by
    rw [setCells_at _ w b 31 j hs, if_neg (by omega)]
  have e0 : ∀ k, fdg (List.replicate 14 0) k = 0 := fun k => by
    unfold fdg
    rw [List.getD_eq_getElem?_getD, List.getElem?_replicate]
    split <;> rfl
  refine ⟨by rw [size_setCellsT]; exact h.lt, (out 0 (by omega)).trans h.c0, (out 1 (by omega)).trans h.c1, fun k hk => (out _ (by omega)).trans (h.rf k hk), fun k hk => (out _ (by omega)).trans (h.su k hk), fun k hk => ?_, fun k hk => (out _ (by omega)).trans (h.ra k hk), fun k hk => by rw [setCells_frozen]; exact h.fz k hk⟩
  rw [setCells_at _ w b 31 _ hs]
  by_cases e : k < G.length
  · rw [if_pos (by omega), Nat.add_sub_cancel_left, ints_at' _ _ e, ← List.getD_eq_getElem?_getD]; rfl
  · rw [if_neg (by omega), h.fo k hk, e0]
    unfold fdg
    rw [List.getD_eq_getElem?_getD, List.getElem?_eq_none (by omega)]; rfl
theorem DeskAt.fillR {w : World} {b C : Nat} {sv : Value} {F T : List Int} (h : DeskAt w b C sv F (List.replicate 14 0)) (hT : T.length ≤ 14) : DeskAt (w.setCells b 45 (ints T)) b C sv F T := by
  have hl : (ints T).length = T.length := ints_length T
  have hs : ∀ i, i < (ints T).length → (w.cell? ⟨b, 45 + i, none⟩).isSome = true := fun i hi => by rw [h.ra i (by omega)]; rfl
  have out : ∀ j, j < 45 ∨ 59 ≤ j → (w.setCells b 45 (ints T)).cell? ⟨b, j, none⟩ = w.cell? ⟨b, j, none⟩ := fun j hj => by
    rw [setCells_at _ w b 45 j hs, if_neg (by omega)]
  have e0 : ∀ k, fdg (List.replicate 14 0) k = 0 := fun k => by
    unfold fdg
    rw [List.getD_eq_getElem?_getD, List.getElem?_replicate]
    split <;> rfl
  refine ⟨by rw [size_setCellsT]; exact h.lt, (out 0 (by omega)).trans h.c0, (out 1 (by omega)).trans h.c1, fun k hk => (out _ (by omega)).trans (h.rf k hk), fun k hk => (out _ (by omega)).trans (h.su k hk), fun k hk => (out _ (by omega)).trans (h.fo k hk), fun k hk => ?_, fun k hk => by rw [setCells_frozen]; exact h.fz k hk⟩
  rw [setCells_at _ w b 45 _ hs]
  by_cases e : k < T.length
  · rw [if_pos (by omega), Nat.add_sub_cancel_left, ints_at' _ _ e, ← List.getD_eq_getElem?_getD]; rfl
  · rw [if_neg (by omega), h.ra k hk, e0]
    unfold fdg
    rw [List.getD_eq_getElem?_getD, List.getElem?_eq_none (by omega)]; rfl
theorem rs_src {B : Nat} {w : World} {a : Option Addr} {n c : Nat} {l : List Int} (h : RS B w (.slice a n c) l.length (ints l)) (hl : 0 < l.length) : ∃ g off, a = some ⟨g, off, none⟩ := by
  obtain ⟨a', cap, e, hc⟩ := h
  obtain ⟨g, off, rfl, -⟩ := hc (ints_ne hl)
  simp only [Value.slice.injEq] at e
  exact ⟨g, off, e.1⟩
theorem rs_add {B : Nat} {w : World} {g off n c : Nat} {l : List Int} (h : RS B w (.slice (some ⟨g, off, none⟩) n c) l.length (ints l)) : ∀ j v, (ints l)[j]? = some v → w.cell? ((⟨g, off, none⟩ : Addr).add j) = some v := fun j v hj => by
  obtain ⟨a', cap, e, hc⟩ := h
  have hne : ints l ≠ [] := fun e => by rw [e] at hj; simp at hj
  obtain ⟨g', off', rfl, -, hcell⟩ := hc hne
  simp only [Value.slice.injEq, Option.some.injEq, Addr.mk.injEq, and_true] at e
  obtain ⟨⟨rfl, rfl⟩, -, -⟩ := e
  have e : (⟨g, off, none⟩ : Addr).add j = ⟨g, off + j, none⟩ := by unfold Addr.add; split <;> simp_all
  rw [e]
  exact hcell j v hj
theorem copy_ints {w : World} {b o g off n c : Nat} {l : List Int} (hn : n = l.length) (hl : l.length ≤ 14) (hsrc : ∀ j v, (ints l)[j]? = some v → w.cell? ((⟨g, off, none⟩ : Addr).add j) = some v) (hc : ∀ j, j < l.length → (w.cell? ⟨b, o + j, none⟩).isSome = true) (hf : ∀ j, j < l.length → w.frozen? ⟨b, o + j, none⟩ = false) :
    (Builtin.copy_ #[23, 23] 3 #[.slice (some ⟨b, o, none⟩) 14 14, .slice (some ⟨g, off, none⟩) n c]).run Try.prog w = .ok (goInt n) (w.setCells b o (ints l)) := by
  have hinfo : (Try.prog.info? 3).map (·.size) = some 1 := by kernel_rfl
  rw [run_copy_cells w 23 23 _ 3 b o 14 14 ⟨g, off, none⟩ n c (ints l) Try.underlying23 hinfo (by rw [ints_length, hn]; exact (Nat.min_eq_left hl).symm) hsrc (fun j hj => hc j (by rwa [ints_length] at hj)) (fun j hj => hf j (by rwa [ints_length] at hj)) (fun v hv => by
    obtain ⟨x, -, rfl⟩ := List.mem_map.1 hv
    rfl), ints_length, hn]
set_option maxHeartbeats 400000 in
theorem holds1_any {x : Int} (h : 0 ≤ x ∧ x ≤ 2) (w : World) : Calls Try.prog 41 #[.int .i64 x] w fun e w' => e = .returned (.bool false) ∧ Below w.heap.size w w' := by
  have HX := Lib.hid (inB_true h.1 h.2)
  go_enter Try.func41, Try.ntmps41
  go_wp2_with fail
  refine (cfrom_any _ _ _ _).mono ?_
  rw [HX.out]
  rintro e w1 ⟨rfl, rfl⟩
  go_wp2
  go_ret
  exact ⟨rfl, Below.refl _ _⟩
set_option maxHeartbeats 400000 in
theorem holds2_any {x : Int} (h : 0 ≤ x ∧ x ≤ 14) (w : World) : Calls Try.prog 43 #[.int .i64 x] w fun e w' => e = .returned (.bool false) ∧ Below w.heap.size w w' := by
  have HX := Lib.hid (inB_true h.1 h.2)
  go_enter Try.func43, Try.ntmps43
  go_wp2_with fail
  refine (cfrom_any _ _ _ _).mono ?_
  rw [HX.out]
  rintro e w1 ⟨rfl, rfl⟩
  go_wp2
  go_ret
  exact ⟨rfl, Below.refl _ _⟩
set_option maxHeartbeats 1000000 in
theorem noneI_any {B f : Nat} {v : Value} {xs : List Int} {w : World} (eg : ∀ args w, (callFunc f args).run Try.prog w = .ok (.enter f args) w) (hl : xs.length ≤ 100000) (hB : B ≤ w.heap.size) (hv : RS B w v xs.length (ints xs))
    (hf : ∀ x ∈ xs, ∀ W, Calls Try.prog f #[.int .i64 x] W fun e W' => e = .returned (.bool false) ∧ Below W.heap.size W W') :
    Calls Try.prog 40 #[v, .func (.func f) #[] #[]] w fun e w' => e = .returned (.bool true) ∧ Below w.heap.size w w' := by
  have hs : Says f #[] xs.length (fun k => .int .i64 (xs.getD k 0)) (fun _ => false) w := fun k hk W _ => by
    have e : xs.getD k 0 = xs[k] := by rw [List.getD_eq_getElem?_getD, List.getElem?_eq_getElem hk]; rfl
    show Calls Try.prog f #[.int .i64 (xs.getD k 0)] W _
    rw [e]
    exact hf _ (List.getElem_mem _) W
  have H := Lib.hid (containsFunc_ints eg hl hv hB hs)
  have e : (List.range xs.length).any (fun _ => false) = false := by simp
  rw [e] at H
  obtain ⟨a, cap, rfl, -⟩ := hv
  clear hs e
  go_enter Try.func40, Try.ntmps40
  go_wp2_with fail
  refine H.out.mono ?_
  rintro e w1 ⟨rfl, hb⟩
  have HB := Lib.hid hb
  clear hb
  go_wp2
  go_ret
  exact ⟨rfl, HB.out⟩
set_option maxRecDepth 20000 in
set_option maxHeartbeats 4000000 in
theorem Holds_any {B C sc gc tc : Nat} {sa ga ta : Option Addr} {S : List (Nat × Nat)} {G T : List Int} {w : World} (h : CaseOk C S) (hB : B ≤ w.heap.size) (hv : RS B w (.slice sa S.length sc) S.length (spans (stk S)))
    (hG : G.length = C) (hT : T.length = C) (hg : ∀ x ∈ G, 0 ≤ x ∧ x ≤ 2) (ht : ∀ x ∈ T, 0 ≤ x ∧ x ≤ 14) (hgv : RS B w (.slice ga C gc) G.length (ints G)) (htv : RS B w (.slice ta C tc) T.length (ints T)) (hh : ∀ n, n < C → HeldAt S G T n) :
    Calls Try.prog 13 #[.agg #[.int .i64 C, .slice sa S.length sc, .slice none 0 0], .slice none 0 0, .slice ga C gc, .slice ta C tc] w fun e w' => e = .returned (.tuple #[.bool true, .int .i64 0]) ∧ Below w.heap.size w w' := by
  have hb0 := (Below.refl _ w).alloc (Nat.le_refl _) (.cells #[.int .i64 C, .slice sa S.length sc, .slice none 0 0] 36)
  have HB0 := Lib.hid hb0
  have c0 : (w.alloc (.cells #[.int .i64 C, .slice sa S.length sc, .slice none 0 0] 36)).cell? ⟨w.heap.size, 0, none⟩ = some (.int .i64 C) := by simp [go_sem]
  have c1 : (w.alloc (.cells #[.int .i64 C, .slice sa S.length sc, .slice none 0 0] 36)).cell? ⟨w.heap.size, 1, none⟩ = some (.slice sa S.length sc) := by simp [go_sem]
  have c2 : (w.alloc (.cells #[.int .i64 C, .slice sa S.length sc, .slice none 0 0] 36)).cell? ⟨w.heap.size, 2, none⟩ = some (.slice none 0 0) := by simp [go_sem]
  have HC := Lib.hid h
  have hC14 : C ≤ 14 := h.c.2
  have hC1 : 1 ≤ C := h.c.1
  have HV := Lib.hid (And.intro (hv.below (hb0.mono hB)) (Nat.le_trans hB hb0.size))
  have HGT := Lib.hid (And.intro (hgv.below (hb0.mono hB)) (htv.below (hb0.mono hB)))
  have HL := Lib.hid (And.intro hG (And.intro hT (And.intro hg ht)))
  have HH := Lib.hid hh
  have HR : Hid (∀ k, 0 ≤ fdg T k ∧ fdg T k ≤ 1000) := Lib.hid (fun k => by
    unfold fdg
    by_cases e : k < T.length
    · rw [List.getD_eq_getElem?_getD, List.getElem?_eq_getElem e]
      have := ht _ (List.getElem_mem e)
      show 0 ≤ T[k] ∧ T[k] ≤ 1000
      omega
    · rw [List.getD_eq_getElem?_getD, List.getElem?_eq_none (by omega)]
      decide)
  have CK := Lib.hid (copened_any (w := w.alloc (.cells #[.int .i64 C, .slice sa S.length sc, .slice none 0 0] 36)) h HV.out.2 HV.out.1)
  clear h hv hb0 hB hgv htv hG hT hg ht hh
  go_enter Try.func13, Try.ntmps13
  generalize hW : w.alloc (.cells #[.int .i64 C, .slice sa S.length sc, .slice none 0 0] 36) = w1 at HB0 c0 c1 c2 CK HV HGT
  go_wp2_with fail
  refine CK.out.mono ?_
  rintro e w2 ⟨b, rfl, hbb, hb, hd⟩
  have HB2 := Lib.hid (HB0.out.trans (hb.mono HB0.out.size))
  have HD2 : Hid (DeskAt w2 b C (.slice sa S.length sc) (List.replicate 14 0) (List.replicate 14 0) ∧ w.heap.size < b ∧ w1.heap.size ≤ b ∧ B ≤ w2.heap.size) := Lib.hid ⟨hd, by have h1 := World.block_lt_of_cell? _ _ c0; exact Nat.lt_of_lt_of_le h1 hbb, hbb, Nat.le_trans HV.out.2 hb.size⟩
  have HV2 := Lib.hid (And.intro (HV.out.1.below (hb.mono HV.out.2)) (And.intro (HGT.out.1.below (hb.mono HV.out.2)) (HGT.out.2.below (hb.mono HV.out.2))))
  replace c0 := hb.on c0
  clear hbb hb hd c1 c2 CK
  have CN1 := Lib.hid (noneI_any (f := 41) (w := w2) (enters_of Try.func41 (by kernel_rfl) rfl) (by rw [HL.out.1]; omega) HD2.out.2.2.2 HV2.out.2.1 (fun x hx W => holds1_any (HL.out.2.2.1 x hx) W))
  go_wp2_with fail
  refine CN1.out.mono ?_
  rintro e w3 ⟨rfl, hb⟩
  have HB3 := Lib.hid (HB2.out.trans (hb.mono HB2.out.size))
  have HD3 : Hid (DeskAt w3 b C (.slice sa S.length sc) (List.replicate 14 0) (List.replicate 14 0) ∧ B ≤ w3.heap.size) := Lib.hid ⟨HD2.out.1.on hb, Nat.le_trans HD2.out.2.2.2 hb.size⟩
  have HV3 := Lib.hid (And.intro (HV2.out.1.below (hb.mono HD2.out.2.2.2)) (And.intro (HV2.out.2.1.below (hb.mono HD2.out.2.2.2)) (HV2.out.2.2.below (hb.mono HD2.out.2.2.2))))
  replace c0 := hb.on c0
  clear hb CN1
  have CN2 := Lib.hid (noneI_any (f := 43) (w := w3) (enters_of Try.func43 (by kernel_rfl) rfl) (by rw [HL.out.2.1]; omega) HD3.out.2 HV3.out.2.2 (fun x hx W => holds2_any (HL.out.2.2.2 x hx) W))
  go_wp2_with fail
  refine CN2.out.mono ?_
  rintro e w4 ⟨rfl, hb⟩
  have HB4 := Lib.hid (HB3.out.trans (hb.mono HB3.out.size))
  have HD4 : Hid (DeskAt w4 b C (.slice sa S.length sc) (List.replicate 14 0) (List.replicate 14 0) ∧ B ≤ w4.heap.size) := Lib.hid ⟨HD3.out.1.on hb, Nat.le_trans HD3.out.2 hb.size⟩
  have HV4 := Lib.hid (And.intro (HV3.out.1.below (hb.mono HD3.out.2)) (And.intro (HV3.out.2.1.below (hb.mono HD3.out.2)) (HV3.out.2.2.below (hb.mono HD3.out.2))))
  replace c0 := hb.on c0
  clear hb CN2
  obtain ⟨g, goff, rfl⟩ := rs_src HV4.out.2.1 (by rw [HL.out.1]; omega)
  obtain ⟨t, toff, rfl⟩ := rs_src HV4.out.2.2 (by rw [HL.out.2.1]; omega)
  go_wp2_with fail
  rw [copy_ints (l := G) HL.out.1.symm (by rw [HL.out.1]; omega) (rs_add HV4.out.2.1) (fun j hj => by rw [HD4.out.1.fo j (by rw [HL.out.1] at hj; omega)]; rfl) (fun j hj => HD4.out.1.fz _ (by rw [HL.out.1] at hj; omega))]
  have HBb := Lib.hid HD2.out.2.2.1
  have hBb : B ≤ b := Nat.le_trans HV.out.2 HD2.out.2.2.1
  have hbl : w.heap.size < b := HD2.out.2.1
  have HD5 : Hid (DeskAt (w4.setCells b 31 (ints G)) b C (.slice sa S.length sc) G (List.replicate 14 0) ∧ B ≤ (w4.setCells b 31 (ints G)).heap.size) := Lib.hid ⟨HD4.out.1.fillF (by rw [HL.out.1]; omega), by rw [size_setCellsT]; exact HD4.out.2⟩
  have hbB : Below B w4 (w4.setCells b 31 (ints G)) := below_setCellsT ((Below.refl _ w4).mono HD4.out.2) hBb _ _
  have HB5 : Hid (Below w.heap.size w (w4.setCells b 31 (ints G))) := Lib.hid (below_setCellsT HB4.out (by omega) _ _)
  have HV5 := Lib.hid (And.intro (HV4.out.1.below hbB) (HV4.out.2.2.below hbB))
  replace c0 : (w4.setCells b 31 (ints G)).cell? ⟨w.heap.size, 0, none⟩ = some (.int .i64 C) := (cells_farT (by omega)).trans c0
  clear hbB HD4 HB4 HV4 HD3 HB3 HV3 HD2 HB2 HV2 HV HGT HB0 hW
  generalize w4.setCells b 31 (ints G) = w5 at HD5 HB5 HV5 c0 ⊢
  go_wp2_with fail
  rw [copy_ints (l := T) HL.out.2.1.symm (by rw [HL.out.2.1]; omega) (rs_add HV5.out.2) (fun j hj => by rw [HD5.out.1.ra j (by rw [HL.out.2.1] at hj; omega)]; rfl) (fun j hj => HD5.out.1.fz _ (by rw [HL.out.2.1] at hj; omega))]
  have hbB : Below B w5 (w5.setCells b 45 (ints T)) := below_setCellsT ((Below.refl _ w5).mono HD5.out.2) hBb _ _
  have HD6 : Hid (DeskW B b C sa sc S G T (w5.setCells b 45 (ints T))) := Lib.hid ⟨HD5.out.1.fillR (by rw [HL.out.2.1]; omega), HV5.out.1.below hbB, by rw [size_setCellsT]; exact HD5.out.2, hBb, HC.out⟩
  have HB6 : Hid (Below w.heap.size w (w5.setCells b 45 (ints T))) := Lib.hid (below_setCellsT HB5.out (by omega) _ _)
  replace c0 : (w5.setCells b 45 (ints T)).cell? ⟨w.heap.size, 0, none⟩ = some (.int .i64 C) := (cells_farT (by omega)).trans c0
  clear hbB HD5 HB5 HV5 hBb hbl HBb
  generalize w5.setCells b 45 (ints T) = w6 at HD6 HB6 c0 ⊢
  go_wp2_with fail
  clear c0
  go_loopw [59] (fun iv W => ∃ k : Nat, k ≤ C ∧ iv = .int .i64 k ∧ Hid (Below w6.heap.size w6 W)) (fun iv _ => C - (intOf iv).toNat)
  case atStart => exact ⟨0, Nat.zero_le _, rfl, Lib.hid (Below.refl _ _)⟩
  case round =>
    obtain ⟨k, hk, rfl, hI⟩ := hrel
    by_cases hlt : k < C
    · have hlt' : (k : Int) < C := by omega
      have CH := Lib.hid (held_any (n := k) (by omega) (HD6.out.on hI.out) HR.out (HH.out k hlt))
      go_wp2_with fail
      refine CH.out.mono ?_
      rintro e w7 ⟨rfl, hb⟩
      have HB7 := Lib.hid (hI.out.trans (hb.mono hI.out.size))
      clear hb CH
      go_wp2_with fail
      go_roundw
      case rel => exact ⟨k + 1, by omega, by go_num, HB7⟩
      case measure => simp [intOf]; omega
    · have hlt' : ¬ (k : Int) < C := by omega
      have HBZ := Lib.hid (HB6.out.trans (hI.out.mono HB6.out.size))
      go_wp2_with fail
      go_ret2
      exact ⟨rfl, HBZ.out⟩
end Go.Proofs.Ytiacgaplhndlnaa
