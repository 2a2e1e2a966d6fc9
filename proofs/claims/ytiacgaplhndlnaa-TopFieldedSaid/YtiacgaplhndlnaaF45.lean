/-
  Parts of the proof, in the order in which they build: CoJ.
-/
import Derived.Test.YtiacgaplhndlnaaF44
set_option linter.unusedVariables false
set_option linter.unusedSimpArgs false
namespace Go.Proofs.Ytiacgaplhndlnaa
open Go Go.RowKit Go.Shelf
open Lim
attribute [local go_sem] Oper.semAt_some

/-- what Award answers -/
def AwdAns (C : Nat) (S : List (Nat × Nat)) (w : World) (e : Ending) (w' : World) : Prop :=
  ∃ v F R, e = .returned (.tuple #[v, .int .i64 0]) ∧ Court S C F R ∧ (∀ n, n < C → Stuck S F n) ∧ w'.ownsRow w.heap.size 3 1 v C (ints (F.take C)) ∧ Below w.heap.size w w'
set_option maxRecDepth 20000 in
set_option maxHeartbeats 4000000 in
theorem Award_any {B C sc : Nat} {sa : Option Addr} {S : List (Nat × Nat)} {w : World} (h : CaseOk C S) (hB : B ≤ w.heap.size) (hv : RS B w (.slice sa S.length sc) S.length (spans (stk S))) :
    Calls Try.prog 12 #[.agg #[.int .i64 C, .slice sa S.length sc, .slice none 0 0], .slice none 0 0] w fun e w' => AwdAns C S w e w' := by
  have hb0 := (Below.refl _ w).alloc (Nat.le_refl _) (.cells #[.int .i64 C, .slice sa S.length sc, .slice none 0 0] 36)
  have HB0 := Lib.hid hb0
  have c0 : (w.alloc (.cells #[.int .i64 C, .slice sa S.length sc, .slice none 0 0] 36)).cell? ⟨w.heap.size, 0, none⟩ = some (.int .i64 C) := by simp [go_sem]
  have c1 : (w.alloc (.cells #[.int .i64 C, .slice sa S.length sc, .slice none 0 0] 36)).cell? ⟨w.heap.size, 1, none⟩ = some (.slice sa S.length sc) := by simp [go_sem]
  have c2 : (w.alloc (.cells #[.int .i64 C, .slice sa S.length sc, .slice none 0 0] 36)).cell? ⟨w.heap.size, 2, none⟩ = some (.slice none 0 0) := by simp [go_sem]
  have HC := Lib.hid h
  have HV := Lib.hid (And.intro (hv.below (hb0.mono hB)) (Nat.le_trans hB hb0.size))
  have CK := Lib.hid (copened_any (w := w.alloc (.cells #[.int .i64 C, .slice sa S.length sc, .slice none 0 0] 36)) h HV.out.2 HV.out.1)
  have HWB := Lib.hid hB
  have hC14 : C ≤ 14 := h.c.2
  have hC14' : (C : Int) ≤ 14 := by omega
  clear h hv hb0 hB
  go_enter Try.func12, Try.ntmps12
  generalize hW : w.alloc (.cells #[.int .i64 C, .slice sa S.length sc, .slice none 0 0] 36) = w1 at HB0 c0 c1 c2 CK HV
  go_wp2_with fail
  refine CK.out.mono ?_
  rintro e w2 ⟨b, rfl, hbb, hb, hd⟩
  have HB2 := Lib.hid (HB0.out.trans (hb.mono HB0.out.size))
  have HD2 : Hid (DeskW B b C sa sc S (List.replicate 14 0) (List.replicate 14 0) w2 ∧ w.heap.size < b) := Lib.hid ⟨⟨hd, HV.out.1.below (hb.mono HV.out.2), Nat.le_trans HV.out.2 hb.size, Nat.le_trans HV.out.2 hbb, HC.out⟩, by have h1 := World.block_lt_of_cell? _ _ c0; exact Nat.lt_of_lt_of_le h1 hbb⟩
  replace c0 := hb.on c0
  clear hbb hb hd c1 c2 CK
  go_upto_region 4 with (fail)
  have hC : (fun W => W.cell? ⟨w.heap.size, 0, none⟩ = some (.int .i64 C)) w2.drew := c0
  have HD3 : Hid (DeskW B b C sa sc S (List.replicate 14 0) (List.replicate 14 0) w2.drew) := Lib.hid (HD2.out.1.on (Below.refl _ _).drew)
  have HB3 := Lib.hid HB2.out.drew
  have HBW := Lib.hid HD2.out.2
  clear c0 HD2 HB2
  generalize hW0 : w2.drew = w3 at hC HD3 HB3
  refine Lim.regC' (fun W => W.cell? ⟨w.heap.size, 0, none⟩ = some (.int .i64 C)) [] #[false, false, false, false, false, false, false, false, false, false] (by kernel_rfl) rfl ?_
  rw [hW0]; clear hW0
  refine Lim.stepR 0 (fun _ => trivial) rfl (by kernel_rfl) (fun _ _ _ _ h => h) hC rfl ?_; apply Exists.intro; refine ⟨?_, ?_⟩
  · rintro w r0; go_simp; try with_reducible rfl
  simp only [Act.put, List.setIfInBounds_toArray, List.set_cons_succ, List.set_cons_zero]
  refine Lim.stepR 4 (fun _ => trivial) rfl (by kernel_rfl) (fun _ _ _ _ h => h) hC rfl ?_; apply Exists.intro; refine ⟨?_, ?_⟩
  · rintro w r0; go_simp; try with_reducible rfl
  simp only [Act.put, List.setIfInBounds_toArray, List.set_cons_succ, List.set_cons_zero]
  refine Lim.stepR 5 (fun _ => trivial) rfl (by kernel_rfl) (fun _ _ _ _ h => h) hC rfl ?_; apply Exists.intro; refine ⟨?_, ?_⟩
  · rintro w r0; go_simp; try with_reducible rfl
  simp only [Act.put, List.setIfInBounds_toArray, List.set_cons_succ, List.set_cons_zero]
  refine Lim.stepE 1 (fun _ => trivial) rfl (by kernel_rfl) rfl (fun K hK => ?_)   -- E call
  go_simp
  refine ⟨rfl, (callsIn_wide.2 (award_any HD3.out (Court.zero S C))).mono ?_⟩
  rintro e w4 ⟨rfl, F, R, hd4, hc4, hst, hs4⟩
  have HD4 := Lib.hid hd4
  have HC4 := Lib.hid (And.intro hc4 hst)
  have HB4 := Lib.hid (HB3.out.trans (hs4.below HB3.out.size (fun k e => by have := HBW.out; omega)))
  have hC2 : (fun W => W.cell? ⟨w.heap.size, 0, none⟩ = some (.int .i64 C)) w4 := hs4.cell hC (by have := HBW.out; omega)
  refine hK _ _ hC2 ?_
  clear hd4 hc4 hst hs4 hC HD3 HB3
  simp only [Act.put, List.setIfInBounds_toArray, List.set_cons_succ, List.set_cons_zero]
  refine Lim.stepR 2 (fun _ => trivial) rfl (by kernel_rfl) (fun _ _ _ _ h => h) hC2 rfl ?_; apply Exists.intro; refine ⟨?_, ?_⟩
  · rintro w r0; go_simp; try with_reducible rfl
  simp only [Act.put, List.setIfInBounds_toArray, List.set_cons_succ, List.set_cons_zero]
  refine Lim.stepR 3 (fun _ => trivial) rfl (by kernel_rfl) (fun _ _ _ _ h => h) hC2 rfl ?_; apply Exists.intro; refine ⟨?_, ?_⟩
  · rintro w r0; go_simp; try with_reducible rfl
  simp only [Act.put, List.setIfInBounds_toArray, List.set_cons_succ, List.set_cons_zero]
  refine Lim.stepR 6 (fun _ => trivial) rfl (by kernel_rfl) (fun _ _ _ _ h => h) hC2 rfl ?_; apply Exists.intro; refine ⟨?_, ?_⟩
  · rintro w r0; go_simp; try with_reducible rfl
  simp only [Act.put, List.setIfInBounds_toArray, List.set_cons_succ, List.set_cons_zero]
  refine Lim.stepE 7 (fun _ => trivial) rfl (by kernel_rfl) rfl (fun K hK => ?_)   -- E call
  have hcells : ∀ j, j < F.length → w4.cell? ⟨b, 31 + j, none⟩ = some (.int .i64 (F.getD j 0)) := fun j hj => HD4.out.d.fo j (by rw [HC4.out.1.f14] at hj; exact hj)
  go_simp
  refine ⟨rfl, (callsIn_wide.2 (Try.slices_Clone_int b 31 C 14 F w4 (by rw [HC4.out.1.f14]; exact hC14) (by omega) hcells)).mono ?_⟩
  rintro e w5 ⟨v, rfl, ho, -, hb⟩
  have HR : Hid (Court S C F R ∧ (∀ n, n < C → Stuck S F n) ∧ w5.ownsRow w.heap.size 3 1 v C (ints (F.take C)) ∧ Below w.heap.size w w5) := Lib.hid ⟨HC4.out.1, HC4.out.2, owns_mono ho HB4.out.size, HB4.out.trans (hb.mono HB4.out.size)⟩
  have hC3 : (fun W => W.cell? ⟨w.heap.size, 0, none⟩ = some (.int .i64 C)) w5 := hb.on hC2
  refine hK _ _ hC3 ?_
  clear ho hb hC2 hcells HD4 HC4 HB4
  simp only [Act.put, List.setIfInBounds_toArray, List.set_cons_succ, List.set_cons_zero]
  refine Lim.stepR 8 (fun _ => trivial) rfl (by kernel_rfl) (fun _ _ _ _ h => h) hC3 rfl ?_; apply Exists.intro; refine ⟨?_, ?_⟩
  · rintro w r0; go_simp; try with_reducible rfl
  simp only [Act.put, List.setIfInBounds_toArray, List.set_cons_succ, List.set_cons_zero]
  refine Lim.stepR 9 (fun _ => trivial) rfl (by kernel_rfl) (fun _ _ _ _ h => h) hC3 rfl ?_; apply Exists.intro; refine ⟨?_, ?_⟩
  · rintro w r0; go_simp; try with_reducible rfl
  simp only [Act.put, List.setIfInBounds_toArray, List.set_cons_succ, List.set_cons_zero]
  refine Lim.stepD (by kernel_rfl) ?_
  go_wp2
  go_ret2
  exact ⟨v, F, R, rfl, HR.out⟩
end Go.Proofs.Ytiacgaplhndlnaa
