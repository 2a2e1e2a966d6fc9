/-
  Parts of the proof, in the order in which they build: Free, MapB, LowMem, Lower.
-/
import Derived.Test.YtdgibmgifgdpbaaG12
import Derived.Test.YtdgibmgifgdpbaaG9
import Derived.Test.YtdgibmgifgdpbaaG1
set_option linter.unusedVariables false
set_option linter.unusedSimpArgs false
/-
  What lower asks of cells: the contract of its closure free.
-/
namespace Go.Proofs.Ytdgibmgifgdpbaa
open Go.RowKit Go.Shelf
open Lim
attribute [local go_sem] Oper.semAt_some

/-- whether lower may go over a cell: land, low enough, not beside the other sea, and neither it nor a neighbour surely comes to the other sea so low -/
def freeB (g : Gd) (away : Nat → Int) (h s : Int) (c : Nat) : Bool :=
  g.ss.getD c 0 == 0 && !decide (h < (g.hs.getD c (0, 0)).1) && !atB g c s && !decide (away c ≤ h) && (nbrL g.wd g.ss.length c).all fun x => !(g.ss.getD x.toNat 0 == 0 && decide (away x.toNat ≤ h))

set_option maxRecDepth 100000 in
set_option maxHeartbeats 2000000 in
theorem free_any {b bw bh bo ba c : Nat} {g : Gd} {away : Nat → Int} {h s : Int} {w : World} (hg : g.Ok) (hc : c < g.ss.length) (hw : WorkAt w.heap.size w b g) (h1 : w.cell? ⟨bw, 0, none⟩ = some (.pointer (some ⟨b, 0, none⟩))) (h2 : w.cell? ⟨bh, 0, none⟩ = some (.int .i64 h))
    (h3 : w.cell? ⟨bo, 0, none⟩ = some (.int .i64 s)) (h4 : ∀ j, j < 100 → w.cell? ⟨ba, j, none⟩ = some (.int .i64 (away j))) :
    Calls Try.prog 107 #[.int .i64 c, .pointer (some ⟨bw, 0, none⟩), .pointer (some ⟨bh, 0, none⟩), .pointer (some ⟨bo, 0, none⟩), .pointer (some ⟨ba, 0, none⟩)] w fun e w' => e = .returned (.bool (freeB g away h s c)) ∧ Below w.heap.size w w' := by
  have hn : g.ss.length ≤ 100 := hg.n1
  have hhn : g.hs.length = g.ss.length := hg.hn
  have HW := Lib.hid hw
  have H4 := Lib.hid h4
  obtain ⟨hlt, hc0, ⟨hv, hc1, ha, hcap, rfl, hha⟩, ⟨sv, hc2, sa, scap, rfl, hsa⟩⟩ := hw
  obtain ⟨hb, hoff, rfl, hhb, hhc⟩ := hha (spans_ne (by omega))
  obtain ⟨sb, soff, rfl, hsb, hsc⟩ := hsa (ints_ne (by omega))
  obtain ⟨z, hz⟩ : ∃ z, z = g.ss.getD c 0 := ⟨_, rfl⟩
  obtain ⟨lo, hlo⟩ : ∃ lo, lo = (g.hs.getD c (0, 0)).1 := ⟨_, rfl⟩
  obtain ⟨ac, hac⟩ : ∃ ac, ac = away c := ⟨_, rfl⟩
  have q0 : w.cell? ⟨sb, soff + c, none⟩ = some (.int .i64 z) := by rw [hz]; exact hsc c _ (ints_at' _ _ hc)
  have q1 : w.cell? ⟨hb, hoff + c * 2, none⟩ = some (.int .i64 lo) := by rw [hlo, List.getD_eq_getElem?_getD, List.getElem?_eq_getElem (by omega)]; exact hhc _ _ (spans_lo _ c (by omega))
  have q2 : w.cell? ⟨ba, c, none⟩ = some (.int .i64 ac) := by rw [hac]; exact h4 c (by omega)
  have HX := Lib.hid (And.intro hz (And.intro hlo hac))
  have HS := Lib.hid hsc
  have HL := Lib.hid (And.intro hc0 (And.intro hc1 hc2))
  have HQ : Hid ((fun W => W.cell? ⟨bw, 0, none⟩ = some (.pointer (some ⟨b, 0, none⟩)) ∧ W.cell? ⟨b, 2, none⟩ = some (.slice (some ⟨sb, soff, none⟩) g.ss.length scap) ∧ W.cell? ⟨sb, soff + c, none⟩ = some (.int .i64 z) ∧ W.cell? ⟨b, 1, none⟩ = some (.slice (some ⟨hb, hoff, none⟩) g.hs.length hcap) ∧ W.cell? ⟨hb, hoff + c * 2, none⟩ = some (.int .i64 lo) ∧ W.cell? ⟨bh, 0, none⟩ = some (.int .i64 h) ∧ W.cell? ⟨bo, 0, none⟩ = some (.int .i64 s) ∧ W.cell? ⟨ba, c, none⟩ = some (.int .i64 ac)) w) := Lib.hid ⟨h1, hc2, q0, hc1, q1, h2, h3, q2⟩
  clear hz hlo hac hsc hhc h4 hc0 hc1 hc2 q0 q1 q2 h1 h2 h3
  refine (callsIn_wide (n := 2)).1 (callsIn_of_wp_marks Try.func107 rfl trivial ?_ rfl)
  simp only [Try.ntmps107, List.size_toArray, List.length_cons, List.length_nil, Nat.reduceAdd, Nat.reduceSub, Array.replicate_succ, Array.replicate_zero, List.push_toArray, List.append_toArray, List.nil_append, List.cons_append]
  refine wpIn_wide.2 ?_
  refine wp_noPanic ?_
  go_wp2_with fail
  have hB1 : Below w.heap.size w (w.alloc (.cells #[.bool false] 4)) := (Below.refl _ w).alloc (Nat.le_refl _) _
  have hC : (fun W => W.cell? ⟨bw, 0, none⟩ = some (.pointer (some ⟨b, 0, none⟩)) ∧ W.cell? ⟨b, 2, none⟩ = some (.slice (some ⟨sb, soff, none⟩) g.ss.length scap) ∧ W.cell? ⟨sb, soff + c, none⟩ = some (.int .i64 z) ∧ W.cell? ⟨b, 1, none⟩ = some (.slice (some ⟨hb, hoff, none⟩) g.hs.length hcap) ∧ W.cell? ⟨hb, hoff + c * 2, none⟩ = some (.int .i64 lo) ∧ W.cell? ⟨bh, 0, none⟩ = some (.int .i64 h) ∧ W.cell? ⟨bo, 0, none⟩ = some (.int .i64 s) ∧ W.cell? ⟨ba, c, none⟩ = some (.int .i64 ac)) (w.alloc (.cells #[.bool false] 4)).drew := by
    obtain ⟨r1, r2, r3, r4, r5, r6, r7, r8⟩ := HQ.out
    exact ⟨cell_al _ r1, cell_al _ r2, cell_al _ r3, cell_al _ r4, cell_al _ r5, cell_al _ r6, cell_al _ r7, cell_al _ r8⟩
  have i3 : (w.alloc (.cells #[.bool false] 4)).drew.cell? ⟨w.heap.size, 0, none⟩ = some (.bool false) := cell_new w #[.bool false] 4 0 (by simp)
  have i4 : (w.alloc (.cells #[.bool false] 4)).drew.frozen? ⟨w.heap.size, 0, none⟩ = false := frozen_new w #[.bool false] 4 0 (by simp)
  have hs1 : w.heap.size + 1 = (w.alloc (.cells #[.bool false] 4)).drew.heap.size := by show _ = (w.alloc _).heap.size; simp
  have hk1 : (c : Int) < 100 := by omega
  by_cases hz0 : z = 0
  · have hz1 : (z != 0) = false := by simpa using hz0
    have hz2 : (z == 0) = true := by simpa using hz0
    by_cases hl : h < lo
    · have hl1 : decide (h < lo) = true := by simpa using hl
      have HF : Hid (freeB g away h s c = false) := Lib.hid (by rw [freeB, ← HX.out.2.1, hl1]; simp)
      have B9 : Below w.heap.size w (w.alloc (.cells #[.bool false] 4)).drew := hB1.drew
      refine Lim.regC' (fun W => W.cell? ⟨bw, 0, none⟩ = some (.pointer (some ⟨b, 0, none⟩)) ∧ W.cell? ⟨b, 2, none⟩ = some (.slice (some ⟨sb, soff, none⟩) g.ss.length scap) ∧ W.cell? ⟨sb, soff + c, none⟩ = some (.int .i64 z) ∧ W.cell? ⟨b, 1, none⟩ = some (.slice (some ⟨hb, hoff, none⟩) g.hs.length hcap) ∧ W.cell? ⟨hb, hoff + c * 2, none⟩ = some (.int .i64 lo) ∧ W.cell? ⟨bh, 0, none⟩ = some (.int .i64 h) ∧ W.cell? ⟨bo, 0, none⟩ = some (.int .i64 s) ∧ W.cell? ⟨ba, c, none⟩ = some (.int .i64 ac)) [] #[false, false, false, false, false, false, false, false, false, false, false, false, false, false, false, false, false, false, false, false, false, false, false, false, false, false, false, false, false, false, false, false, false, false, false] (by kernel_rfl) rfl ?_
      refine Lim.stepR 0 (fun _ => trivial) rfl (by kernel_rfl) (fun _ _ _ _ h => h) hC rfl ?_; apply Exists.intro; refine ⟨?_, ?_⟩
      · rintro w ⟨r1, r2, r3, r4, r5, r6, r7, r8⟩; go_simp; try with_reducible rfl
      simp only [Act.put, List.setIfInBounds_toArray, List.set_cons_succ, List.set_cons_zero]
      refine Lim.stepR 1 (fun _ => trivial) rfl (by kernel_rfl) (fun _ _ _ _ h => h) hC rfl ?_; apply Exists.intro; refine ⟨?_, ?_⟩
      · rintro w ⟨r1, r2, r3, r4, r5, r6, r7, r8⟩; go_simp; try with_reducible rfl
      simp only [Act.put, List.setIfInBounds_toArray, List.set_cons_succ, List.set_cons_zero]
      refine Lim.stepR 2 (fun _ => trivial) rfl (by kernel_rfl) (fun _ _ _ _ h => h) hC rfl ?_; apply Exists.intro; refine ⟨?_, ?_⟩
      · rintro w ⟨r1, r2, r3, r4, r5, r6, r7, r8⟩; go_simp; try with_reducible rfl
      simp only [Act.put, List.setIfInBounds_toArray, List.set_cons_succ, List.set_cons_zero]
      refine Lim.stepR 3 (fun _ => trivial) rfl (by kernel_rfl) (fun _ _ _ _ h => h) hC rfl ?_; apply Exists.intro; refine ⟨?_, ?_⟩
      · rintro w ⟨r1, r2, r3, r4, r5, r6, r7, r8⟩; go_simp; try with_reducible rfl
      simp only [Act.put, List.setIfInBounds_toArray, List.set_cons_succ, List.set_cons_zero]
      refine Lim.stepR 4 (fun _ => trivial) rfl (by kernel_rfl) (fun _ _ _ _ h => h) hC rfl ?_; apply Exists.intro; refine ⟨?_, ?_⟩
      · rintro w ⟨r1, r2, r3, r4, r5, r6, r7, r8⟩; go_simp; try with_reducible rfl
      simp only [Act.put, List.setIfInBounds_toArray, List.set_cons_succ, List.set_cons_zero]
      refine Lim.stepR 5 (fun _ => trivial) rfl (by kernel_rfl) (fun _ _ _ _ h => h) hC rfl ?_; apply Exists.intro; refine ⟨?_, ?_⟩
      · rintro w ⟨r1, r2, r3, r4, r5, r6, r7, r8⟩; go_simp; try with_reducible rfl
      simp only [Act.put, List.setIfInBounds_toArray, List.set_cons_succ, List.set_cons_zero]
      refine Lim.stepR 6 (fun _ => trivial) rfl (by kernel_rfl) (fun _ _ _ _ h => h) hC rfl ?_; apply Exists.intro; refine ⟨?_, ?_⟩
      · rintro w ⟨r1, r2, r3, r4, r5, r6, r7, r8⟩; go_simp; try with_reducible rfl
      simp only [Act.put, List.setIfInBounds_toArray, List.set_cons_succ, List.set_cons_zero]
      refine Lim.stepR 7 (fun _ => trivial) rfl (by kernel_rfl) (fun _ _ _ _ h => h) hC rfl ?_; apply Exists.intro; refine ⟨?_, ?_⟩
      · rintro w ⟨r1, r2, r3, r4, r5, r6, r7, r8⟩; go_simp; try with_reducible rfl
      simp only [Act.put, List.setIfInBounds_toArray, List.set_cons_succ, List.set_cons_zero]
      refine Lim.stepR 8 (fun _ => trivial) rfl (by kernel_rfl) (fun _ _ _ _ h => h) hC rfl ?_; apply Exists.intro; refine ⟨?_, ?_⟩
      · rintro w ⟨r1, r2, r3, r4, r5, r6, r7, r8⟩; go_simp; try with_reducible rfl
      simp only [Act.put, List.setIfInBounds_toArray, List.set_cons_succ, List.set_cons_zero]
      refine Lim.stepR 9 (fun _ => trivial) rfl (by kernel_rfl) (fun _ _ _ _ h => h) hC rfl ?_; apply Exists.intro; refine ⟨?_, ?_⟩
      · rintro w ⟨r1, r2, r3, r4, r5, r6, r7, r8⟩; go_simp; try with_reducible rfl
      simp only [Act.put, List.setIfInBounds_toArray, List.set_cons_succ, List.set_cons_zero]
      refine Lim.stepR 10 (fun _ => trivial) rfl (by kernel_rfl) (fun _ _ _ _ h => h) hC rfl ?_; apply Exists.intro; refine ⟨?_, ?_⟩
      · rintro w ⟨r1, r2, r3, r4, r5, r6, r7, r8⟩; go_simp; try with_reducible rfl
      simp only [Act.put, List.setIfInBounds_toArray, List.set_cons_succ, List.set_cons_zero]
      refine Lim.stepR 11 (fun _ => trivial) rfl (by kernel_rfl) (fun _ _ _ _ h => h) hC rfl ?_; apply Exists.intro; refine ⟨?_, ?_⟩
      · rintro w ⟨r1, r2, r3, r4, r5, r6, r7, r8⟩; go_simp; try with_reducible rfl
      simp only [Act.put, List.setIfInBounds_toArray, List.set_cons_succ, List.set_cons_zero]
      refine Lim.stepR 12 (fun _ => trivial) rfl (by kernel_rfl) (fun _ _ _ _ h => h) hC rfl ?_; apply Exists.intro; refine ⟨?_, ?_⟩
      · rintro w ⟨r1, r2, r3, r4, r5, r6, r7, r8⟩; go_simp; try with_reducible rfl
      simp only [Act.put, List.setIfInBounds_toArray, List.set_cons_succ, List.set_cons_zero]
      refine Lim.stepR 13 (fun _ => trivial) rfl (by kernel_rfl) (fun _ _ _ _ h => h) hC rfl ?_; apply Exists.intro; refine ⟨?_, ?_⟩
      · rintro w ⟨r1, r2, r3, r4, r5, r6, r7, r8⟩; go_simp; try with_reducible rfl
      simp only [Act.put, List.setIfInBounds_toArray, List.set_cons_succ, List.set_cons_zero]
      refine Lim.stepR 14 (fun _ => trivial) rfl (by kernel_rfl) (fun _ _ _ _ h => h) hC rfl ?_; apply Exists.intro; refine ⟨?_, ?_⟩
      · rintro w ⟨r1, r2, r3, r4, r5, r6, r7, r8⟩; go_simp; try with_reducible rfl
      simp only [Act.put, List.setIfInBounds_toArray, List.set_cons_succ, List.set_cons_zero]
      refine Lim.stepR 15 (fun _ => trivial) rfl (by kernel_rfl) (fun _ _ _ _ h => h) hC rfl ?_; apply Exists.intro; refine ⟨?_, ?_⟩
      · rintro w ⟨r1, r2, r3, r4, r5, r6, r7, r8⟩; go_simp; try with_reducible rfl
      simp only [Act.put, List.setIfInBounds_toArray, List.set_cons_succ, List.set_cons_zero]
      refine Lim.stepR 16 (fun _ => trivial) rfl (by kernel_rfl) (fun _ _ _ _ h => h) hC rfl ?_; apply Exists.intro; refine ⟨?_, ?_⟩
      · rintro w ⟨r1, r2, r3, r4, r5, r6, r7, r8⟩; go_simp; try with_reducible rfl
      simp only [Act.put, List.setIfInBounds_toArray, List.set_cons_succ, List.set_cons_zero]
      refine Lim.stepR 17 (fun _ => trivial) rfl (by kernel_rfl) (fun _ _ _ _ h => h) hC rfl ?_; apply Exists.intro; refine ⟨?_, ?_⟩
      · rintro w ⟨r1, r2, r3, r4, r5, r6, r7, r8⟩; go_simp; try with_reducible rfl
      simp only [Act.put, List.setIfInBounds_toArray, List.set_cons_succ, List.set_cons_zero]
      refine Lim.stepR 18 (fun _ => trivial) rfl (by kernel_rfl) (fun _ _ _ _ h => h) hC rfl ?_; apply Exists.intro; refine ⟨?_, ?_⟩
      · rintro w ⟨r1, r2, r3, r4, r5, r6, r7, r8⟩; go_simp; try with_reducible rfl
      simp only [Act.put, List.setIfInBounds_toArray, List.set_cons_succ, List.set_cons_zero]
      refine Lim.stepR 19 (fun _ => trivial) rfl (by kernel_rfl) (fun _ _ _ _ h => h) hC rfl ?_; apply Exists.intro; refine ⟨?_, ?_⟩
      · rintro w ⟨r1, r2, r3, r4, r5, r6, r7, r8⟩; go_simp; try with_reducible rfl
      simp only [Act.put, List.setIfInBounds_toArray, List.set_cons_succ, List.set_cons_zero]
      refine Lim.stepR 20 (fun _ => trivial) rfl (by kernel_rfl) (fun _ _ _ _ h => h) hC rfl ?_; apply Exists.intro; refine ⟨?_, ?_⟩
      · rintro w ⟨r1, r2, r3, r4, r5, r6, r7, r8⟩; go_simp; try with_reducible rfl
      simp only [Act.put, List.setIfInBounds_toArray, List.set_cons_succ, List.set_cons_zero]
      refine Lim.stepR 21 (fun _ => trivial) rfl (by kernel_rfl) (fun _ _ _ _ h => h) hC rfl ?_; apply Exists.intro; refine ⟨?_, ?_⟩
      · rintro w ⟨r1, r2, r3, r4, r5, r6, r7, r8⟩; go_simp; try with_reducible rfl
      simp only [Act.put, List.setIfInBounds_toArray, List.set_cons_succ, List.set_cons_zero]
      refine Lim.stepR 22 (fun _ => trivial) rfl (by kernel_rfl) (fun _ _ _ _ h => h) hC rfl ?_; apply Exists.intro; refine ⟨?_, ?_⟩
      · rintro w ⟨r1, r2, r3, r4, r5, r6, r7, r8⟩; go_simp; try with_reducible rfl
      simp only [Act.put, List.setIfInBounds_toArray, List.set_cons_succ, List.set_cons_zero]
      refine Lim.stepS 23 (fun _ => trivial) rfl (by kernel_rfl) (fun _ _ _ _ h => h) hC rfl ?_
      simp only [Act.put, List.setIfInBounds_toArray, List.set_cons_succ, List.set_cons_zero]
      refine Lim.stepS 24 (fun _ => trivial) rfl (by kernel_rfl) (fun _ _ _ _ h => h) hC rfl ?_
      simp only [Act.put, List.setIfInBounds_toArray, List.set_cons_succ, List.set_cons_zero]
      refine Lim.stepS 25 (fun _ => trivial) rfl (by kernel_rfl) (fun _ _ _ _ h => h) hC rfl ?_
      simp only [Act.put, List.setIfInBounds_toArray, List.set_cons_succ, List.set_cons_zero]
      refine Lim.stepS 26 (fun _ => trivial) rfl (by kernel_rfl) (fun _ _ _ _ h => h) hC rfl ?_
      simp only [Act.put, List.setIfInBounds_toArray, List.set_cons_succ, List.set_cons_zero]
      refine Lim.stepR 27 (fun _ => trivial) rfl (by kernel_rfl) (fun _ _ _ _ h => h) hC rfl ?_; apply Exists.intro; refine ⟨?_, ?_⟩
      · rintro w ⟨r1, r2, r3, r4, r5, r6, r7, r8⟩; go_simp; try with_reducible rfl
      simp only [Act.put, List.setIfInBounds_toArray, List.set_cons_succ, List.set_cons_zero]
      refine Lim.stepR 28 (fun _ => trivial) rfl (by kernel_rfl) (fun _ _ _ _ h => h) hC rfl ?_; apply Exists.intro; refine ⟨?_, ?_⟩
      · rintro w ⟨r1, r2, r3, r4, r5, r6, r7, r8⟩; go_simp; try with_reducible rfl
      simp only [Act.put, List.setIfInBounds_toArray, List.set_cons_succ, List.set_cons_zero]
      refine Lim.stepS 29 (fun _ => trivial) rfl (by kernel_rfl) (fun _ _ _ _ h => h) hC rfl ?_
      simp only [Act.put, List.setIfInBounds_toArray, List.set_cons_succ, List.set_cons_zero]
      refine Lim.stepS 30 (fun _ => trivial) rfl (by kernel_rfl) (fun _ _ _ _ h => h) hC rfl ?_
      simp only [Act.put, List.setIfInBounds_toArray, List.set_cons_succ, List.set_cons_zero]
      refine Lim.stepS 31 (fun _ => trivial) rfl (by kernel_rfl) (fun _ _ _ _ h => h) hC rfl ?_
      simp only [Act.put, List.setIfInBounds_toArray, List.set_cons_succ, List.set_cons_zero]
      refine Lim.stepS 32 (fun _ => trivial) rfl (by kernel_rfl) (fun _ _ _ _ h => h) hC rfl ?_
      simp only [Act.put, List.setIfInBounds_toArray, List.set_cons_succ, List.set_cons_zero]
      refine Lim.stepS 33 (fun _ => trivial) rfl (by kernel_rfl) (fun _ _ _ _ h => h) hC rfl ?_
      simp only [Act.put, List.setIfInBounds_toArray, List.set_cons_succ, List.set_cons_zero]
      refine Lim.stepR 34 (fun _ => trivial) rfl (by kernel_rfl) (fun _ _ _ _ h => h) hC rfl ?_; apply Exists.intro; refine ⟨?_, ?_⟩
      · rintro w ⟨r1, r2, r3, r4, r5, r6, r7, r8⟩; go_simp; try with_reducible rfl
      simp only [Act.put, List.setIfInBounds_toArray, List.set_cons_succ, List.set_cons_zero]
      refine Lim.stepD (by kernel_rfl) ?_
      generalize (w.alloc (.cells #[.bool false] 4)).drew = w9 at B9 i3 i4 hs1 ⊢
      clear hC
      go_wp2
      refine leaves_marks (B := w.heap.size) _ (Marks.nil _ _) (fun w' hs => ⟨.bool false, ?_, by rw [HF.out], ?_⟩)
      · have := hs.cell (World.cell?_setCell_same' w9 ⟨w.heap.size, 0, none⟩ (.bool false) (by rw [i3]; rfl))
        simp [results, Try.f107, go_sem, this]
      · exact (B9.setCell (p := ⟨w.heap.size, 0, none⟩) (Nat.le_refl _) _).steady hs (Nat.le_refl _) (by have := B9.size; simp [World.setCell]; omega)
    · have hl1 : decide (h < lo) = false := by simpa using hl
      have HAT := Lib.hid (at_any (s := s) hg hc (B := w.heap.size) (w := (w.alloc (.cells #[.bool false] 4)).drew) (by omega) (HW.out.below hB1.drew))
      cases hat : atB g c s with
      | true =>
        rw [hat] at HAT
        have HF : Hid (freeB g away h s c = false) := Lib.hid (by rw [freeB, hat]; simp)
        clear hat
        refine Lim.regC' (fun W => W.cell? ⟨bw, 0, none⟩ = some (.pointer (some ⟨b, 0, none⟩)) ∧ W.cell? ⟨b, 2, none⟩ = some (.slice (some ⟨sb, soff, none⟩) g.ss.length scap) ∧ W.cell? ⟨sb, soff + c, none⟩ = some (.int .i64 z) ∧ W.cell? ⟨b, 1, none⟩ = some (.slice (some ⟨hb, hoff, none⟩) g.hs.length hcap) ∧ W.cell? ⟨hb, hoff + c * 2, none⟩ = some (.int .i64 lo) ∧ W.cell? ⟨bh, 0, none⟩ = some (.int .i64 h) ∧ W.cell? ⟨bo, 0, none⟩ = some (.int .i64 s) ∧ W.cell? ⟨ba, c, none⟩ = some (.int .i64 ac)) [] #[false, false, false, false, false, false, false, false, false, false, false, false, false, false, false, false, false, false, false, false, false, false, false, false, false, false, false, false, false, false, false, false, false, false, false] (by kernel_rfl) rfl ?_
        refine Lim.stepR 0 (fun _ => trivial) rfl (by kernel_rfl) (fun _ _ _ _ h => h) hC rfl ?_; apply Exists.intro; refine ⟨?_, ?_⟩
        · rintro w ⟨r1, r2, r3, r4, r5, r6, r7, r8⟩; go_simp; try with_reducible rfl
        simp only [Act.put, List.setIfInBounds_toArray, List.set_cons_succ, List.set_cons_zero]
        refine Lim.stepR 1 (fun _ => trivial) rfl (by kernel_rfl) (fun _ _ _ _ h => h) hC rfl ?_; apply Exists.intro; refine ⟨?_, ?_⟩
        · rintro w ⟨r1, r2, r3, r4, r5, r6, r7, r8⟩; go_simp; try with_reducible rfl
        simp only [Act.put, List.setIfInBounds_toArray, List.set_cons_succ, List.set_cons_zero]
        refine Lim.stepR 2 (fun _ => trivial) rfl (by kernel_rfl) (fun _ _ _ _ h => h) hC rfl ?_; apply Exists.intro; refine ⟨?_, ?_⟩
        · rintro w ⟨r1, r2, r3, r4, r5, r6, r7, r8⟩; go_simp; try with_reducible rfl
        simp only [Act.put, List.setIfInBounds_toArray, List.set_cons_succ, List.set_cons_zero]
        refine Lim.stepR 3 (fun _ => trivial) rfl (by kernel_rfl) (fun _ _ _ _ h => h) hC rfl ?_; apply Exists.intro; refine ⟨?_, ?_⟩
        · rintro w ⟨r1, r2, r3, r4, r5, r6, r7, r8⟩; go_simp; try with_reducible rfl
        simp only [Act.put, List.setIfInBounds_toArray, List.set_cons_succ, List.set_cons_zero]
        refine Lim.stepR 4 (fun _ => trivial) rfl (by kernel_rfl) (fun _ _ _ _ h => h) hC rfl ?_; apply Exists.intro; refine ⟨?_, ?_⟩
        · rintro w ⟨r1, r2, r3, r4, r5, r6, r7, r8⟩; go_simp; try with_reducible rfl
        simp only [Act.put, List.setIfInBounds_toArray, List.set_cons_succ, List.set_cons_zero]
        refine Lim.stepR 5 (fun _ => trivial) rfl (by kernel_rfl) (fun _ _ _ _ h => h) hC rfl ?_; apply Exists.intro; refine ⟨?_, ?_⟩
        · rintro w ⟨r1, r2, r3, r4, r5, r6, r7, r8⟩; go_simp; try with_reducible rfl
        simp only [Act.put, List.setIfInBounds_toArray, List.set_cons_succ, List.set_cons_zero]
        refine Lim.stepR 6 (fun _ => trivial) rfl (by kernel_rfl) (fun _ _ _ _ h => h) hC rfl ?_; apply Exists.intro; refine ⟨?_, ?_⟩
        · rintro w ⟨r1, r2, r3, r4, r5, r6, r7, r8⟩; go_simp; try with_reducible rfl
        simp only [Act.put, List.setIfInBounds_toArray, List.set_cons_succ, List.set_cons_zero]
        refine Lim.stepR 7 (fun _ => trivial) rfl (by kernel_rfl) (fun _ _ _ _ h => h) hC rfl ?_; apply Exists.intro; refine ⟨?_, ?_⟩
        · rintro w ⟨r1, r2, r3, r4, r5, r6, r7, r8⟩; go_simp; try with_reducible rfl
        simp only [Act.put, List.setIfInBounds_toArray, List.set_cons_succ, List.set_cons_zero]
        refine Lim.stepR 8 (fun _ => trivial) rfl (by kernel_rfl) (fun _ _ _ _ h => h) hC rfl ?_; apply Exists.intro; refine ⟨?_, ?_⟩
        · rintro w ⟨r1, r2, r3, r4, r5, r6, r7, r8⟩; go_simp; try with_reducible rfl
        simp only [Act.put, List.setIfInBounds_toArray, List.set_cons_succ, List.set_cons_zero]
        refine Lim.stepR 9 (fun _ => trivial) rfl (by kernel_rfl) (fun _ _ _ _ h => h) hC rfl ?_; apply Exists.intro; refine ⟨?_, ?_⟩
        · rintro w ⟨r1, r2, r3, r4, r5, r6, r7, r8⟩; go_simp; try with_reducible rfl
        simp only [Act.put, List.setIfInBounds_toArray, List.set_cons_succ, List.set_cons_zero]
        refine Lim.stepR 10 (fun _ => trivial) rfl (by kernel_rfl) (fun _ _ _ _ h => h) hC rfl ?_; apply Exists.intro; refine ⟨?_, ?_⟩
        · rintro w ⟨r1, r2, r3, r4, r5, r6, r7, r8⟩; go_simp; try with_reducible rfl
        simp only [Act.put, List.setIfInBounds_toArray, List.set_cons_succ, List.set_cons_zero]
        refine Lim.stepR 11 (fun _ => trivial) rfl (by kernel_rfl) (fun _ _ _ _ h => h) hC rfl ?_; apply Exists.intro; refine ⟨?_, ?_⟩
        · rintro w ⟨r1, r2, r3, r4, r5, r6, r7, r8⟩; go_simp; try with_reducible rfl
        simp only [Act.put, List.setIfInBounds_toArray, List.set_cons_succ, List.set_cons_zero]
        refine Lim.stepR 12 (fun _ => trivial) rfl (by kernel_rfl) (fun _ _ _ _ h => h) hC rfl ?_; apply Exists.intro; refine ⟨?_, ?_⟩
        · rintro w ⟨r1, r2, r3, r4, r5, r6, r7, r8⟩; go_simp; try with_reducible rfl
        simp only [Act.put, List.setIfInBounds_toArray, List.set_cons_succ, List.set_cons_zero]
        refine Lim.stepR 13 (fun _ => trivial) rfl (by kernel_rfl) (fun _ _ _ _ h => h) hC rfl ?_; apply Exists.intro; refine ⟨?_, ?_⟩
        · rintro w ⟨r1, r2, r3, r4, r5, r6, r7, r8⟩; go_simp; try with_reducible rfl
        simp only [Act.put, List.setIfInBounds_toArray, List.set_cons_succ, List.set_cons_zero]
        refine Lim.stepR 14 (fun _ => trivial) rfl (by kernel_rfl) (fun _ _ _ _ h => h) hC rfl ?_; apply Exists.intro; refine ⟨?_, ?_⟩
        · rintro w ⟨r1, r2, r3, r4, r5, r6, r7, r8⟩; go_simp; try with_reducible rfl
        simp only [Act.put, List.setIfInBounds_toArray, List.set_cons_succ, List.set_cons_zero]
        refine Lim.stepR 15 (fun _ => trivial) rfl (by kernel_rfl) (fun _ _ _ _ h => h) hC rfl ?_; apply Exists.intro; refine ⟨?_, ?_⟩
        · rintro w ⟨r1, r2, r3, r4, r5, r6, r7, r8⟩; go_simp; try with_reducible rfl
        simp only [Act.put, List.setIfInBounds_toArray, List.set_cons_succ, List.set_cons_zero]
        refine Lim.stepR 16 (fun _ => trivial) rfl (by kernel_rfl) (fun _ _ _ _ h => h) hC rfl ?_; apply Exists.intro; refine ⟨?_, ?_⟩
        · rintro w ⟨r1, r2, r3, r4, r5, r6, r7, r8⟩; go_simp; try with_reducible rfl
        simp only [Act.put, List.setIfInBounds_toArray, List.set_cons_succ, List.set_cons_zero]
        refine Lim.stepR 17 (fun _ => trivial) rfl (by kernel_rfl) (fun _ _ _ _ h => h) hC rfl ?_; apply Exists.intro; refine ⟨?_, ?_⟩
        · rintro w ⟨r1, r2, r3, r4, r5, r6, r7, r8⟩; go_simp; try with_reducible rfl
        simp only [Act.put, List.setIfInBounds_toArray, List.set_cons_succ, List.set_cons_zero]
        refine Lim.stepR 18 (fun _ => trivial) rfl (by kernel_rfl) (fun _ _ _ _ h => h) hC rfl ?_; apply Exists.intro; refine ⟨?_, ?_⟩
        · rintro w ⟨r1, r2, r3, r4, r5, r6, r7, r8⟩; go_simp; try with_reducible rfl
        simp only [Act.put, List.setIfInBounds_toArray, List.set_cons_succ, List.set_cons_zero]
        refine Lim.stepR 19 (fun _ => trivial) rfl (by kernel_rfl) (fun _ _ _ _ h => h) hC rfl ?_; apply Exists.intro; refine ⟨?_, ?_⟩
        · rintro w ⟨r1, r2, r3, r4, r5, r6, r7, r8⟩; go_simp; try with_reducible rfl
        simp only [Act.put, List.setIfInBounds_toArray, List.set_cons_succ, List.set_cons_zero]
        refine Lim.stepR 20 (fun _ => trivial) rfl (by kernel_rfl) (fun _ _ _ _ h => h) hC rfl ?_; apply Exists.intro; refine ⟨?_, ?_⟩
        · rintro w ⟨r1, r2, r3, r4, r5, r6, r7, r8⟩; go_simp; try with_reducible rfl
        simp only [Act.put, List.setIfInBounds_toArray, List.set_cons_succ, List.set_cons_zero]
        refine Lim.stepR 21 (fun _ => trivial) rfl (by kernel_rfl) (fun _ _ _ _ h => h) hC rfl ?_; apply Exists.intro; refine ⟨?_, ?_⟩
        · rintro w ⟨r1, r2, r3, r4, r5, r6, r7, r8⟩; go_simp; try with_reducible rfl
        simp only [Act.put, List.setIfInBounds_toArray, List.set_cons_succ, List.set_cons_zero]
        refine Lim.stepR 22 (fun _ => trivial) rfl (by kernel_rfl) (fun _ _ _ _ h => h) hC rfl ?_; apply Exists.intro; refine ⟨?_, ?_⟩
        · rintro w ⟨r1, r2, r3, r4, r5, r6, r7, r8⟩; go_simp; try with_reducible rfl
        simp only [Act.put, List.setIfInBounds_toArray, List.set_cons_succ, List.set_cons_zero]
        refine Lim.stepR 23 (fun _ => trivial) rfl (by kernel_rfl) (fun _ _ _ _ h => h) hC rfl ?_; apply Exists.intro; refine ⟨?_, ?_⟩
        · rintro w ⟨r1, r2, r3, r4, r5, r6, r7, r8⟩; go_simp; try with_reducible rfl
        simp only [Act.put, List.setIfInBounds_toArray, List.set_cons_succ, List.set_cons_zero]
        refine Lim.stepR 24 (fun _ => trivial) rfl (by kernel_rfl) (fun _ _ _ _ h => h) hC rfl ?_; apply Exists.intro; refine ⟨?_, ?_⟩
        · rintro w ⟨r1, r2, r3, r4, r5, r6, r7, r8⟩; go_simp; try with_reducible rfl
        simp only [Act.put, List.setIfInBounds_toArray, List.set_cons_succ, List.set_cons_zero]
        refine Lim.stepR 25 (fun _ => trivial) rfl (by kernel_rfl) (fun _ _ _ _ h => h) hC rfl ?_; apply Exists.intro; refine ⟨?_, ?_⟩
        · rintro w ⟨r1, r2, r3, r4, r5, r6, r7, r8⟩; go_simp; try with_reducible rfl
        simp only [Act.put, List.setIfInBounds_toArray, List.set_cons_succ, List.set_cons_zero]
        refine Lim.stepE 26 (fun _ => trivial) rfl (by kernel_rfl) rfl (fun K hK => ?_)   -- E call
        go_simp
        refine ⟨rfl, (callsIn_wide.2 HAT.out).mono ?_⟩
        rintro e w9 ⟨rfl, hb9⟩
        have hC2 : (fun W => W.cell? ⟨bw, 0, none⟩ = some (.pointer (some ⟨b, 0, none⟩)) ∧ W.cell? ⟨b, 2, none⟩ = some (.slice (some ⟨sb, soff, none⟩) g.ss.length scap) ∧ W.cell? ⟨sb, soff + c, none⟩ = some (.int .i64 z) ∧ W.cell? ⟨b, 1, none⟩ = some (.slice (some ⟨hb, hoff, none⟩) g.hs.length hcap) ∧ W.cell? ⟨hb, hoff + c * 2, none⟩ = some (.int .i64 lo) ∧ W.cell? ⟨bh, 0, none⟩ = some (.int .i64 h) ∧ W.cell? ⟨bo, 0, none⟩ = some (.int .i64 s) ∧ W.cell? ⟨ba, c, none⟩ = some (.int .i64 ac)) w9 := by
          obtain ⟨r1, r2, r3, r4, r5, r6, r7, r8⟩ := hC
          exact ⟨cell_on hb9 r1, cell_on hb9 r2, cell_on hb9 r3, cell_on hb9 r4, cell_on hb9 r5, cell_on hb9 r6, cell_on hb9 r7, cell_on hb9 r8⟩
        replace i4 := frozen_on hb9 i3 i4
        replace i3 := cell_on hb9 i3
        have B9 : Below w.heap.size w w9 := hB1.drew.trans (hb9.mono (by omega))
        clear hC HAT
        have hs9 := hb9.size
        clear hb9
        refine hK _ _ hC2 ?_
        simp only [Act.put, List.setIfInBounds_toArray, List.set_cons_succ, List.set_cons_zero]
        refine Lim.stepR 27 (fun _ => trivial) rfl (by kernel_rfl) (fun _ _ _ _ h => h) hC2 rfl ?_; apply Exists.intro; refine ⟨?_, ?_⟩
        · rintro w ⟨r1, r2, r3, r4, r5, r6, r7, r8⟩; go_simp; try with_reducible rfl
        simp only [Act.put, List.setIfInBounds_toArray, List.set_cons_succ, List.set_cons_zero]
        refine Lim.stepR 28 (fun _ => trivial) rfl (by kernel_rfl) (fun _ _ _ _ h => h) hC2 rfl ?_; apply Exists.intro; refine ⟨?_, ?_⟩
        · rintro w ⟨r1, r2, r3, r4, r5, r6, r7, r8⟩; go_simp; try with_reducible rfl
        simp only [Act.put, List.setIfInBounds_toArray, List.set_cons_succ, List.set_cons_zero]
        refine Lim.stepS 29 (fun _ => trivial) rfl (by kernel_rfl) (fun _ _ _ _ h => h) hC2 rfl ?_
        simp only [Act.put, List.setIfInBounds_toArray, List.set_cons_succ, List.set_cons_zero]
        refine Lim.stepS 30 (fun _ => trivial) rfl (by kernel_rfl) (fun _ _ _ _ h => h) hC2 rfl ?_
        simp only [Act.put, List.setIfInBounds_toArray, List.set_cons_succ, List.set_cons_zero]
        refine Lim.stepS 31 (fun _ => trivial) rfl (by kernel_rfl) (fun _ _ _ _ h => h) hC2 rfl ?_
        simp only [Act.put, List.setIfInBounds_toArray, List.set_cons_succ, List.set_cons_zero]
        refine Lim.stepS 32 (fun _ => trivial) rfl (by kernel_rfl) (fun _ _ _ _ h => h) hC2 rfl ?_
        simp only [Act.put, List.setIfInBounds_toArray, List.set_cons_succ, List.set_cons_zero]
        refine Lim.stepS 33 (fun _ => trivial) rfl (by kernel_rfl) (fun _ _ _ _ h => h) hC2 rfl ?_
        simp only [Act.put, List.setIfInBounds_toArray, List.set_cons_succ, List.set_cons_zero]
        refine Lim.stepR 34 (fun _ => trivial) rfl (by kernel_rfl) (fun _ _ _ _ h => h) hC2 rfl ?_; apply Exists.intro; refine ⟨?_, ?_⟩
        · rintro w ⟨r1, r2, r3, r4, r5, r6, r7, r8⟩; go_simp; try with_reducible rfl
        simp only [Act.put, List.setIfInBounds_toArray, List.set_cons_succ, List.set_cons_zero]
        refine Lim.stepD (by kernel_rfl) ?_
        have hC := hC2
        clear hC2
        clear hC
        go_wp2
        refine leaves_marks (B := w.heap.size) _ (Marks.nil _ _) (fun w' hs => ⟨.bool false, ?_, by rw [HF.out], ?_⟩)
        · have := hs.cell (World.cell?_setCell_same' w9 ⟨w.heap.size, 0, none⟩ (.bool false) (by rw [i3]; rfl))
          simp [results, Try.f107, go_sem, this]
        · exact (B9.setCell (p := ⟨w.heap.size, 0, none⟩) (Nat.le_refl _) _).steady hs (Nat.le_refl _) (by have := B9.size; simp [World.setCell]; omega)
      | false =>
        rw [hat] at HAT
        have HATF := Lib.hid hat
        clear hat
        by_cases hac : ac ≤ h
        · have ha1 : decide (ac ≤ h) = true := by simpa using hac
          have HF : Hid (freeB g away h s c = false) := Lib.hid (by rw [freeB, ← HX.out.2.2, ha1]; simp)
          refine Lim.regC' (fun W => W.cell? ⟨bw, 0, none⟩ = some (.pointer (some ⟨b, 0, none⟩)) ∧ W.cell? ⟨b, 2, none⟩ = some (.slice (some ⟨sb, soff, none⟩) g.ss.length scap) ∧ W.cell? ⟨sb, soff + c, none⟩ = some (.int .i64 z) ∧ W.cell? ⟨b, 1, none⟩ = some (.slice (some ⟨hb, hoff, none⟩) g.hs.length hcap) ∧ W.cell? ⟨hb, hoff + c * 2, none⟩ = some (.int .i64 lo) ∧ W.cell? ⟨bh, 0, none⟩ = some (.int .i64 h) ∧ W.cell? ⟨bo, 0, none⟩ = some (.int .i64 s) ∧ W.cell? ⟨ba, c, none⟩ = some (.int .i64 ac)) [] #[false, false, false, false, false, false, false, false, false, false, false, false, false, false, false, false, false, false, false, false, false, false, false, false, false, false, false, false, false, false, false, false, false, false, false] (by kernel_rfl) rfl ?_
          refine Lim.stepR 0 (fun _ => trivial) rfl (by kernel_rfl) (fun _ _ _ _ h => h) hC rfl ?_; apply Exists.intro; refine ⟨?_, ?_⟩
          · rintro w ⟨r1, r2, r3, r4, r5, r6, r7, r8⟩; go_simp; try with_reducible rfl
          simp only [Act.put, List.setIfInBounds_toArray, List.set_cons_succ, List.set_cons_zero]
          refine Lim.stepR 1 (fun _ => trivial) rfl (by kernel_rfl) (fun _ _ _ _ h => h) hC rfl ?_; apply Exists.intro; refine ⟨?_, ?_⟩
          · rintro w ⟨r1, r2, r3, r4, r5, r6, r7, r8⟩; go_simp; try with_reducible rfl
          simp only [Act.put, List.setIfInBounds_toArray, List.set_cons_succ, List.set_cons_zero]
          refine Lim.stepR 2 (fun _ => trivial) rfl (by kernel_rfl) (fun _ _ _ _ h => h) hC rfl ?_; apply Exists.intro; refine ⟨?_, ?_⟩
          · rintro w ⟨r1, r2, r3, r4, r5, r6, r7, r8⟩; go_simp; try with_reducible rfl
          simp only [Act.put, List.setIfInBounds_toArray, List.set_cons_succ, List.set_cons_zero]
          refine Lim.stepR 3 (fun _ => trivial) rfl (by kernel_rfl) (fun _ _ _ _ h => h) hC rfl ?_; apply Exists.intro; refine ⟨?_, ?_⟩
          · rintro w ⟨r1, r2, r3, r4, r5, r6, r7, r8⟩; go_simp; try with_reducible rfl
          simp only [Act.put, List.setIfInBounds_toArray, List.set_cons_succ, List.set_cons_zero]
          refine Lim.stepR 4 (fun _ => trivial) rfl (by kernel_rfl) (fun _ _ _ _ h => h) hC rfl ?_; apply Exists.intro; refine ⟨?_, ?_⟩
          · rintro w ⟨r1, r2, r3, r4, r5, r6, r7, r8⟩; go_simp; try with_reducible rfl
          simp only [Act.put, List.setIfInBounds_toArray, List.set_cons_succ, List.set_cons_zero]
          refine Lim.stepR 5 (fun _ => trivial) rfl (by kernel_rfl) (fun _ _ _ _ h => h) hC rfl ?_; apply Exists.intro; refine ⟨?_, ?_⟩
          · rintro w ⟨r1, r2, r3, r4, r5, r6, r7, r8⟩; go_simp; try with_reducible rfl
          simp only [Act.put, List.setIfInBounds_toArray, List.set_cons_succ, List.set_cons_zero]
          refine Lim.stepR 6 (fun _ => trivial) rfl (by kernel_rfl) (fun _ _ _ _ h => h) hC rfl ?_; apply Exists.intro; refine ⟨?_, ?_⟩
          · rintro w ⟨r1, r2, r3, r4, r5, r6, r7, r8⟩; go_simp; try with_reducible rfl
          simp only [Act.put, List.setIfInBounds_toArray, List.set_cons_succ, List.set_cons_zero]
          refine Lim.stepR 7 (fun _ => trivial) rfl (by kernel_rfl) (fun _ _ _ _ h => h) hC rfl ?_; apply Exists.intro; refine ⟨?_, ?_⟩
          · rintro w ⟨r1, r2, r3, r4, r5, r6, r7, r8⟩; go_simp; try with_reducible rfl
          simp only [Act.put, List.setIfInBounds_toArray, List.set_cons_succ, List.set_cons_zero]
          refine Lim.stepR 8 (fun _ => trivial) rfl (by kernel_rfl) (fun _ _ _ _ h => h) hC rfl ?_; apply Exists.intro; refine ⟨?_, ?_⟩
          · rintro w ⟨r1, r2, r3, r4, r5, r6, r7, r8⟩; go_simp; try with_reducible rfl
          simp only [Act.put, List.setIfInBounds_toArray, List.set_cons_succ, List.set_cons_zero]
          refine Lim.stepR 9 (fun _ => trivial) rfl (by kernel_rfl) (fun _ _ _ _ h => h) hC rfl ?_; apply Exists.intro; refine ⟨?_, ?_⟩
          · rintro w ⟨r1, r2, r3, r4, r5, r6, r7, r8⟩; go_simp; try with_reducible rfl
          simp only [Act.put, List.setIfInBounds_toArray, List.set_cons_succ, List.set_cons_zero]
          refine Lim.stepR 10 (fun _ => trivial) rfl (by kernel_rfl) (fun _ _ _ _ h => h) hC rfl ?_; apply Exists.intro; refine ⟨?_, ?_⟩
          · rintro w ⟨r1, r2, r3, r4, r5, r6, r7, r8⟩; go_simp; try with_reducible rfl
          simp only [Act.put, List.setIfInBounds_toArray, List.set_cons_succ, List.set_cons_zero]
          refine Lim.stepR 11 (fun _ => trivial) rfl (by kernel_rfl) (fun _ _ _ _ h => h) hC rfl ?_; apply Exists.intro; refine ⟨?_, ?_⟩
          · rintro w ⟨r1, r2, r3, r4, r5, r6, r7, r8⟩; go_simp; try with_reducible rfl
          simp only [Act.put, List.setIfInBounds_toArray, List.set_cons_succ, List.set_cons_zero]
          refine Lim.stepR 12 (fun _ => trivial) rfl (by kernel_rfl) (fun _ _ _ _ h => h) hC rfl ?_; apply Exists.intro; refine ⟨?_, ?_⟩
          · rintro w ⟨r1, r2, r3, r4, r5, r6, r7, r8⟩; go_simp; try with_reducible rfl
          simp only [Act.put, List.setIfInBounds_toArray, List.set_cons_succ, List.set_cons_zero]
          refine Lim.stepR 13 (fun _ => trivial) rfl (by kernel_rfl) (fun _ _ _ _ h => h) hC rfl ?_; apply Exists.intro; refine ⟨?_, ?_⟩
          · rintro w ⟨r1, r2, r3, r4, r5, r6, r7, r8⟩; go_simp; try with_reducible rfl
          simp only [Act.put, List.setIfInBounds_toArray, List.set_cons_succ, List.set_cons_zero]
          refine Lim.stepR 14 (fun _ => trivial) rfl (by kernel_rfl) (fun _ _ _ _ h => h) hC rfl ?_; apply Exists.intro; refine ⟨?_, ?_⟩
          · rintro w ⟨r1, r2, r3, r4, r5, r6, r7, r8⟩; go_simp; try with_reducible rfl
          simp only [Act.put, List.setIfInBounds_toArray, List.set_cons_succ, List.set_cons_zero]
          refine Lim.stepR 15 (fun _ => trivial) rfl (by kernel_rfl) (fun _ _ _ _ h => h) hC rfl ?_; apply Exists.intro; refine ⟨?_, ?_⟩
          · rintro w ⟨r1, r2, r3, r4, r5, r6, r7, r8⟩; go_simp; try with_reducible rfl
          simp only [Act.put, List.setIfInBounds_toArray, List.set_cons_succ, List.set_cons_zero]
          refine Lim.stepR 16 (fun _ => trivial) rfl (by kernel_rfl) (fun _ _ _ _ h => h) hC rfl ?_; apply Exists.intro; refine ⟨?_, ?_⟩
          · rintro w ⟨r1, r2, r3, r4, r5, r6, r7, r8⟩; go_simp; try with_reducible rfl
          simp only [Act.put, List.setIfInBounds_toArray, List.set_cons_succ, List.set_cons_zero]
          refine Lim.stepR 17 (fun _ => trivial) rfl (by kernel_rfl) (fun _ _ _ _ h => h) hC rfl ?_; apply Exists.intro; refine ⟨?_, ?_⟩
          · rintro w ⟨r1, r2, r3, r4, r5, r6, r7, r8⟩; go_simp; try with_reducible rfl
          simp only [Act.put, List.setIfInBounds_toArray, List.set_cons_succ, List.set_cons_zero]
          refine Lim.stepR 18 (fun _ => trivial) rfl (by kernel_rfl) (fun _ _ _ _ h => h) hC rfl ?_; apply Exists.intro; refine ⟨?_, ?_⟩
          · rintro w ⟨r1, r2, r3, r4, r5, r6, r7, r8⟩; go_simp; try with_reducible rfl
          simp only [Act.put, List.setIfInBounds_toArray, List.set_cons_succ, List.set_cons_zero]
          refine Lim.stepR 19 (fun _ => trivial) rfl (by kernel_rfl) (fun _ _ _ _ h => h) hC rfl ?_; apply Exists.intro; refine ⟨?_, ?_⟩
          · rintro w ⟨r1, r2, r3, r4, r5, r6, r7, r8⟩; go_simp; try with_reducible rfl
          simp only [Act.put, List.setIfInBounds_toArray, List.set_cons_succ, List.set_cons_zero]
          refine Lim.stepR 20 (fun _ => trivial) rfl (by kernel_rfl) (fun _ _ _ _ h => h) hC rfl ?_; apply Exists.intro; refine ⟨?_, ?_⟩
          · rintro w ⟨r1, r2, r3, r4, r5, r6, r7, r8⟩; go_simp; try with_reducible rfl
          simp only [Act.put, List.setIfInBounds_toArray, List.set_cons_succ, List.set_cons_zero]
          refine Lim.stepR 21 (fun _ => trivial) rfl (by kernel_rfl) (fun _ _ _ _ h => h) hC rfl ?_; apply Exists.intro; refine ⟨?_, ?_⟩
          · rintro w ⟨r1, r2, r3, r4, r5, r6, r7, r8⟩; go_simp; try with_reducible rfl
          simp only [Act.put, List.setIfInBounds_toArray, List.set_cons_succ, List.set_cons_zero]
          refine Lim.stepR 22 (fun _ => trivial) rfl (by kernel_rfl) (fun _ _ _ _ h => h) hC rfl ?_; apply Exists.intro; refine ⟨?_, ?_⟩
          · rintro w ⟨r1, r2, r3, r4, r5, r6, r7, r8⟩; go_simp; try with_reducible rfl
          simp only [Act.put, List.setIfInBounds_toArray, List.set_cons_succ, List.set_cons_zero]
          refine Lim.stepR 23 (fun _ => trivial) rfl (by kernel_rfl) (fun _ _ _ _ h => h) hC rfl ?_; apply Exists.intro; refine ⟨?_, ?_⟩
          · rintro w ⟨r1, r2, r3, r4, r5, r6, r7, r8⟩; go_simp; try with_reducible rfl
          simp only [Act.put, List.setIfInBounds_toArray, List.set_cons_succ, List.set_cons_zero]
          refine Lim.stepR 24 (fun _ => trivial) rfl (by kernel_rfl) (fun _ _ _ _ h => h) hC rfl ?_; apply Exists.intro; refine ⟨?_, ?_⟩
          · rintro w ⟨r1, r2, r3, r4, r5, r6, r7, r8⟩; go_simp; try with_reducible rfl
          simp only [Act.put, List.setIfInBounds_toArray, List.set_cons_succ, List.set_cons_zero]
          refine Lim.stepR 25 (fun _ => trivial) rfl (by kernel_rfl) (fun _ _ _ _ h => h) hC rfl ?_; apply Exists.intro; refine ⟨?_, ?_⟩
          · rintro w ⟨r1, r2, r3, r4, r5, r6, r7, r8⟩; go_simp; try with_reducible rfl
          simp only [Act.put, List.setIfInBounds_toArray, List.set_cons_succ, List.set_cons_zero]
          refine Lim.stepE 26 (fun _ => trivial) rfl (by kernel_rfl) rfl (fun K hK => ?_)   -- E call
          go_simp
          refine ⟨rfl, (callsIn_wide.2 HAT.out).mono ?_⟩
          rintro e w9 ⟨rfl, hb9⟩
          have hC2 : (fun W => W.cell? ⟨bw, 0, none⟩ = some (.pointer (some ⟨b, 0, none⟩)) ∧ W.cell? ⟨b, 2, none⟩ = some (.slice (some ⟨sb, soff, none⟩) g.ss.length scap) ∧ W.cell? ⟨sb, soff + c, none⟩ = some (.int .i64 z) ∧ W.cell? ⟨b, 1, none⟩ = some (.slice (some ⟨hb, hoff, none⟩) g.hs.length hcap) ∧ W.cell? ⟨hb, hoff + c * 2, none⟩ = some (.int .i64 lo) ∧ W.cell? ⟨bh, 0, none⟩ = some (.int .i64 h) ∧ W.cell? ⟨bo, 0, none⟩ = some (.int .i64 s) ∧ W.cell? ⟨ba, c, none⟩ = some (.int .i64 ac)) w9 := by
            obtain ⟨r1, r2, r3, r4, r5, r6, r7, r8⟩ := hC
            exact ⟨cell_on hb9 r1, cell_on hb9 r2, cell_on hb9 r3, cell_on hb9 r4, cell_on hb9 r5, cell_on hb9 r6, cell_on hb9 r7, cell_on hb9 r8⟩
          replace i4 := frozen_on hb9 i3 i4
          replace i3 := cell_on hb9 i3
          have B9 : Below w.heap.size w w9 := hB1.drew.trans (hb9.mono (by omega))
          clear hC HAT
          have hs9 := hb9.size
          clear hb9
          refine hK _ _ hC2 ?_
          simp only [Act.put, List.setIfInBounds_toArray, List.set_cons_succ, List.set_cons_zero]
          refine Lim.stepR 27 (fun _ => trivial) rfl (by kernel_rfl) (fun _ _ _ _ h => h) hC2 rfl ?_; apply Exists.intro; refine ⟨?_, ?_⟩
          · rintro w ⟨r1, r2, r3, r4, r5, r6, r7, r8⟩; go_simp; try with_reducible rfl
          simp only [Act.put, List.setIfInBounds_toArray, List.set_cons_succ, List.set_cons_zero]
          refine Lim.stepR 28 (fun _ => trivial) rfl (by kernel_rfl) (fun _ _ _ _ h => h) hC2 rfl ?_; apply Exists.intro; refine ⟨?_, ?_⟩
          · rintro w ⟨r1, r2, r3, r4, r5, r6, r7, r8⟩; go_simp; try with_reducible rfl
          simp only [Act.put, List.setIfInBounds_toArray, List.set_cons_succ, List.set_cons_zero]
          refine Lim.stepR 29 (fun _ => trivial) rfl (by kernel_rfl) (fun _ _ _ _ h => h) hC2 rfl ?_; apply Exists.intro; refine ⟨?_, ?_⟩
          · rintro w ⟨r1, r2, r3, r4, r5, r6, r7, r8⟩; go_simp; try with_reducible rfl
          simp only [Act.put, List.setIfInBounds_toArray, List.set_cons_succ, List.set_cons_zero]
          refine Lim.stepR 30 (fun _ => trivial) rfl (by kernel_rfl) (fun _ _ _ _ h => h) hC2 rfl ?_; apply Exists.intro; refine ⟨?_, ?_⟩
          · rintro w ⟨r1, r2, r3, r4, r5, r6, r7, r8⟩; go_simp; try with_reducible rfl
          simp only [Act.put, List.setIfInBounds_toArray, List.set_cons_succ, List.set_cons_zero]
          refine Lim.stepR 31 (fun _ => trivial) rfl (by kernel_rfl) (fun _ _ _ _ h => h) hC2 rfl ?_; apply Exists.intro; refine ⟨?_, ?_⟩
          · rintro w ⟨r1, r2, r3, r4, r5, r6, r7, r8⟩; go_simp; try with_reducible rfl
          simp only [Act.put, List.setIfInBounds_toArray, List.set_cons_succ, List.set_cons_zero]
          refine Lim.stepR 32 (fun _ => trivial) rfl (by kernel_rfl) (fun _ _ _ _ h => h) hC2 rfl ?_; apply Exists.intro; refine ⟨?_, ?_⟩
          · rintro w ⟨r1, r2, r3, r4, r5, r6, r7, r8⟩; go_simp; try with_reducible rfl
          simp only [Act.put, List.setIfInBounds_toArray, List.set_cons_succ, List.set_cons_zero]
          refine Lim.stepR 33 (fun _ => trivial) rfl (by kernel_rfl) (fun _ _ _ _ h => h) hC2 rfl ?_; apply Exists.intro; refine ⟨?_, ?_⟩
          · rintro w ⟨r1, r2, r3, r4, r5, r6, r7, r8⟩; go_simp; try with_reducible rfl
          simp only [Act.put, List.setIfInBounds_toArray, List.set_cons_succ, List.set_cons_zero]
          refine Lim.stepR 34 (fun _ => trivial) rfl (by kernel_rfl) (fun _ _ _ _ h => h) hC2 rfl ?_; apply Exists.intro; refine ⟨?_, ?_⟩
          · rintro w ⟨r1, r2, r3, r4, r5, r6, r7, r8⟩; go_simp; try with_reducible rfl
          simp only [Act.put, List.setIfInBounds_toArray, List.set_cons_succ, List.set_cons_zero]
          refine Lim.stepD (by kernel_rfl) ?_
          have hC := hC2
          clear hC2
          clear hC
          go_wp2
          refine leaves_marks (B := w.heap.size) _ (Marks.nil _ _) (fun w' hs => ⟨.bool false, ?_, by rw [HF.out], ?_⟩)
          · have := hs.cell (World.cell?_setCell_same' w9 ⟨w.heap.size, 0, none⟩ (.bool false) (by rw [i3]; rfl))
            simp [results, Try.f107, go_sem, this]
          · exact (B9.setCell (p := ⟨w.heap.size, 0, none⟩) (Nat.le_refl _) _).steady hs (Nat.le_refl _) (by have := B9.size; simp [World.setCell]; omega)
        · have ha1 : decide (ac ≤ h) = false := by simpa using hac
          have HF : Hid (freeB g away h s c = (nbrL g.wd g.ss.length c).all fun x => !(g.ss.getD x.toNat 0 == 0 && decide (away x.toNat ≤ h))) := Lib.hid (by rw [freeB, ← HX.out.1, ← HX.out.2.1, ← HX.out.2.2, HATF.out, ha1, hl1, hz2]; rfl)
          refine Lim.regC' (fun W => W.cell? ⟨bw, 0, none⟩ = some (.pointer (some ⟨b, 0, none⟩)) ∧ W.cell? ⟨b, 2, none⟩ = some (.slice (some ⟨sb, soff, none⟩) g.ss.length scap) ∧ W.cell? ⟨sb, soff + c, none⟩ = some (.int .i64 z) ∧ W.cell? ⟨b, 1, none⟩ = some (.slice (some ⟨hb, hoff, none⟩) g.hs.length hcap) ∧ W.cell? ⟨hb, hoff + c * 2, none⟩ = some (.int .i64 lo) ∧ W.cell? ⟨bh, 0, none⟩ = some (.int .i64 h) ∧ W.cell? ⟨bo, 0, none⟩ = some (.int .i64 s) ∧ W.cell? ⟨ba, c, none⟩ = some (.int .i64 ac)) [] #[false, false, false, false, false, false, false, false, false, false, false, false, false, false, false, false, false, false, false, false, false, false, false, false, false, false, false, false, false, false, false, false, false, false, false] (by kernel_rfl) rfl ?_
          refine Lim.stepR 0 (fun _ => trivial) rfl (by kernel_rfl) (fun _ _ _ _ h => h) hC rfl ?_; apply Exists.intro; refine ⟨?_, ?_⟩
          · rintro w ⟨r1, r2, r3, r4, r5, r6, r7, r8⟩; go_simp; try with_reducible rfl
          simp only [Act.put, List.setIfInBounds_toArray, List.set_cons_succ, List.set_cons_zero]
          refine Lim.stepR 1 (fun _ => trivial) rfl (by kernel_rfl) (fun _ _ _ _ h => h) hC rfl ?_; apply Exists.intro; refine ⟨?_, ?_⟩
          · rintro w ⟨r1, r2, r3, r4, r5, r6, r7, r8⟩; go_simp; try with_reducible rfl
          simp only [Act.put, List.setIfInBounds_toArray, List.set_cons_succ, List.set_cons_zero]
          refine Lim.stepR 2 (fun _ => trivial) rfl (by kernel_rfl) (fun _ _ _ _ h => h) hC rfl ?_; apply Exists.intro; refine ⟨?_, ?_⟩
          · rintro w ⟨r1, r2, r3, r4, r5, r6, r7, r8⟩; go_simp; try with_reducible rfl
          simp only [Act.put, List.setIfInBounds_toArray, List.set_cons_succ, List.set_cons_zero]
          refine Lim.stepR 3 (fun _ => trivial) rfl (by kernel_rfl) (fun _ _ _ _ h => h) hC rfl ?_; apply Exists.intro; refine ⟨?_, ?_⟩
          · rintro w ⟨r1, r2, r3, r4, r5, r6, r7, r8⟩; go_simp; try with_reducible rfl
          simp only [Act.put, List.setIfInBounds_toArray, List.set_cons_succ, List.set_cons_zero]
          refine Lim.stepR 4 (fun _ => trivial) rfl (by kernel_rfl) (fun _ _ _ _ h => h) hC rfl ?_; apply Exists.intro; refine ⟨?_, ?_⟩
          · rintro w ⟨r1, r2, r3, r4, r5, r6, r7, r8⟩; go_simp; try with_reducible rfl
          simp only [Act.put, List.setIfInBounds_toArray, List.set_cons_succ, List.set_cons_zero]
          refine Lim.stepR 5 (fun _ => trivial) rfl (by kernel_rfl) (fun _ _ _ _ h => h) hC rfl ?_; apply Exists.intro; refine ⟨?_, ?_⟩
          · rintro w ⟨r1, r2, r3, r4, r5, r6, r7, r8⟩; go_simp; try with_reducible rfl
          simp only [Act.put, List.setIfInBounds_toArray, List.set_cons_succ, List.set_cons_zero]
          refine Lim.stepR 6 (fun _ => trivial) rfl (by kernel_rfl) (fun _ _ _ _ h => h) hC rfl ?_; apply Exists.intro; refine ⟨?_, ?_⟩
          · rintro w ⟨r1, r2, r3, r4, r5, r6, r7, r8⟩; go_simp; try with_reducible rfl
          simp only [Act.put, List.setIfInBounds_toArray, List.set_cons_succ, List.set_cons_zero]
          refine Lim.stepR 7 (fun _ => trivial) rfl (by kernel_rfl) (fun _ _ _ _ h => h) hC rfl ?_; apply Exists.intro; refine ⟨?_, ?_⟩
          · rintro w ⟨r1, r2, r3, r4, r5, r6, r7, r8⟩; go_simp; try with_reducible rfl
          simp only [Act.put, List.setIfInBounds_toArray, List.set_cons_succ, List.set_cons_zero]
          refine Lim.stepR 8 (fun _ => trivial) rfl (by kernel_rfl) (fun _ _ _ _ h => h) hC rfl ?_; apply Exists.intro; refine ⟨?_, ?_⟩
          · rintro w ⟨r1, r2, r3, r4, r5, r6, r7, r8⟩; go_simp; try with_reducible rfl
          simp only [Act.put, List.setIfInBounds_toArray, List.set_cons_succ, List.set_cons_zero]
          refine Lim.stepR 9 (fun _ => trivial) rfl (by kernel_rfl) (fun _ _ _ _ h => h) hC rfl ?_; apply Exists.intro; refine ⟨?_, ?_⟩
          · rintro w ⟨r1, r2, r3, r4, r5, r6, r7, r8⟩; go_simp; try with_reducible rfl
          simp only [Act.put, List.setIfInBounds_toArray, List.set_cons_succ, List.set_cons_zero]
          refine Lim.stepR 10 (fun _ => trivial) rfl (by kernel_rfl) (fun _ _ _ _ h => h) hC rfl ?_; apply Exists.intro; refine ⟨?_, ?_⟩
          · rintro w ⟨r1, r2, r3, r4, r5, r6, r7, r8⟩; go_simp; try with_reducible rfl
          simp only [Act.put, List.setIfInBounds_toArray, List.set_cons_succ, List.set_cons_zero]
          refine Lim.stepR 11 (fun _ => trivial) rfl (by kernel_rfl) (fun _ _ _ _ h => h) hC rfl ?_; apply Exists.intro; refine ⟨?_, ?_⟩
          · rintro w ⟨r1, r2, r3, r4, r5, r6, r7, r8⟩; go_simp; try with_reducible rfl
          simp only [Act.put, List.setIfInBounds_toArray, List.set_cons_succ, List.set_cons_zero]
          refine Lim.stepR 12 (fun _ => trivial) rfl (by kernel_rfl) (fun _ _ _ _ h => h) hC rfl ?_; apply Exists.intro; refine ⟨?_, ?_⟩
          · rintro w ⟨r1, r2, r3, r4, r5, r6, r7, r8⟩; go_simp; try with_reducible rfl
          simp only [Act.put, List.setIfInBounds_toArray, List.set_cons_succ, List.set_cons_zero]
          refine Lim.stepR 13 (fun _ => trivial) rfl (by kernel_rfl) (fun _ _ _ _ h => h) hC rfl ?_; apply Exists.intro; refine ⟨?_, ?_⟩
          · rintro w ⟨r1, r2, r3, r4, r5, r6, r7, r8⟩; go_simp; try with_reducible rfl
          simp only [Act.put, List.setIfInBounds_toArray, List.set_cons_succ, List.set_cons_zero]
          refine Lim.stepR 14 (fun _ => trivial) rfl (by kernel_rfl) (fun _ _ _ _ h => h) hC rfl ?_; apply Exists.intro; refine ⟨?_, ?_⟩
          · rintro w ⟨r1, r2, r3, r4, r5, r6, r7, r8⟩; go_simp; try with_reducible rfl
          simp only [Act.put, List.setIfInBounds_toArray, List.set_cons_succ, List.set_cons_zero]
          refine Lim.stepR 15 (fun _ => trivial) rfl (by kernel_rfl) (fun _ _ _ _ h => h) hC rfl ?_; apply Exists.intro; refine ⟨?_, ?_⟩
          · rintro w ⟨r1, r2, r3, r4, r5, r6, r7, r8⟩; go_simp; try with_reducible rfl
          simp only [Act.put, List.setIfInBounds_toArray, List.set_cons_succ, List.set_cons_zero]
          refine Lim.stepR 16 (fun _ => trivial) rfl (by kernel_rfl) (fun _ _ _ _ h => h) hC rfl ?_; apply Exists.intro; refine ⟨?_, ?_⟩
          · rintro w ⟨r1, r2, r3, r4, r5, r6, r7, r8⟩; go_simp; try with_reducible rfl
          simp only [Act.put, List.setIfInBounds_toArray, List.set_cons_succ, List.set_cons_zero]
          refine Lim.stepR 17 (fun _ => trivial) rfl (by kernel_rfl) (fun _ _ _ _ h => h) hC rfl ?_; apply Exists.intro; refine ⟨?_, ?_⟩
          · rintro w ⟨r1, r2, r3, r4, r5, r6, r7, r8⟩; go_simp; try with_reducible rfl
          simp only [Act.put, List.setIfInBounds_toArray, List.set_cons_succ, List.set_cons_zero]
          refine Lim.stepR 18 (fun _ => trivial) rfl (by kernel_rfl) (fun _ _ _ _ h => h) hC rfl ?_; apply Exists.intro; refine ⟨?_, ?_⟩
          · rintro w ⟨r1, r2, r3, r4, r5, r6, r7, r8⟩; go_simp; try with_reducible rfl
          simp only [Act.put, List.setIfInBounds_toArray, List.set_cons_succ, List.set_cons_zero]
          refine Lim.stepR 19 (fun _ => trivial) rfl (by kernel_rfl) (fun _ _ _ _ h => h) hC rfl ?_; apply Exists.intro; refine ⟨?_, ?_⟩
          · rintro w ⟨r1, r2, r3, r4, r5, r6, r7, r8⟩; go_simp; try with_reducible rfl
          simp only [Act.put, List.setIfInBounds_toArray, List.set_cons_succ, List.set_cons_zero]
          refine Lim.stepR 20 (fun _ => trivial) rfl (by kernel_rfl) (fun _ _ _ _ h => h) hC rfl ?_; apply Exists.intro; refine ⟨?_, ?_⟩
          · rintro w ⟨r1, r2, r3, r4, r5, r6, r7, r8⟩; go_simp; try with_reducible rfl
          simp only [Act.put, List.setIfInBounds_toArray, List.set_cons_succ, List.set_cons_zero]
          refine Lim.stepR 21 (fun _ => trivial) rfl (by kernel_rfl) (fun _ _ _ _ h => h) hC rfl ?_; apply Exists.intro; refine ⟨?_, ?_⟩
          · rintro w ⟨r1, r2, r3, r4, r5, r6, r7, r8⟩; go_simp; try with_reducible rfl
          simp only [Act.put, List.setIfInBounds_toArray, List.set_cons_succ, List.set_cons_zero]
          refine Lim.stepR 22 (fun _ => trivial) rfl (by kernel_rfl) (fun _ _ _ _ h => h) hC rfl ?_; apply Exists.intro; refine ⟨?_, ?_⟩
          · rintro w ⟨r1, r2, r3, r4, r5, r6, r7, r8⟩; go_simp; try with_reducible rfl
          simp only [Act.put, List.setIfInBounds_toArray, List.set_cons_succ, List.set_cons_zero]
          refine Lim.stepR 23 (fun _ => trivial) rfl (by kernel_rfl) (fun _ _ _ _ h => h) hC rfl ?_; apply Exists.intro; refine ⟨?_, ?_⟩
          · rintro w ⟨r1, r2, r3, r4, r5, r6, r7, r8⟩; go_simp; try with_reducible rfl
          simp only [Act.put, List.setIfInBounds_toArray, List.set_cons_succ, List.set_cons_zero]
          refine Lim.stepR 24 (fun _ => trivial) rfl (by kernel_rfl) (fun _ _ _ _ h => h) hC rfl ?_; apply Exists.intro; refine ⟨?_, ?_⟩
          · rintro w ⟨r1, r2, r3, r4, r5, r6, r7, r8⟩; go_simp; try with_reducible rfl
          simp only [Act.put, List.setIfInBounds_toArray, List.set_cons_succ, List.set_cons_zero]
          refine Lim.stepR 25 (fun _ => trivial) rfl (by kernel_rfl) (fun _ _ _ _ h => h) hC rfl ?_; apply Exists.intro; refine ⟨?_, ?_⟩
          · rintro w ⟨r1, r2, r3, r4, r5, r6, r7, r8⟩; go_simp; try with_reducible rfl
          simp only [Act.put, List.setIfInBounds_toArray, List.set_cons_succ, List.set_cons_zero]
          refine Lim.stepE 26 (fun _ => trivial) rfl (by kernel_rfl) rfl (fun K hK => ?_)   -- E call
          go_simp
          refine ⟨rfl, (callsIn_wide.2 HAT.out).mono ?_⟩
          rintro e w9 ⟨rfl, hb9⟩
          have hC2 : (fun W => W.cell? ⟨bw, 0, none⟩ = some (.pointer (some ⟨b, 0, none⟩)) ∧ W.cell? ⟨b, 2, none⟩ = some (.slice (some ⟨sb, soff, none⟩) g.ss.length scap) ∧ W.cell? ⟨sb, soff + c, none⟩ = some (.int .i64 z) ∧ W.cell? ⟨b, 1, none⟩ = some (.slice (some ⟨hb, hoff, none⟩) g.hs.length hcap) ∧ W.cell? ⟨hb, hoff + c * 2, none⟩ = some (.int .i64 lo) ∧ W.cell? ⟨bh, 0, none⟩ = some (.int .i64 h) ∧ W.cell? ⟨bo, 0, none⟩ = some (.int .i64 s) ∧ W.cell? ⟨ba, c, none⟩ = some (.int .i64 ac)) w9 := by
            obtain ⟨r1, r2, r3, r4, r5, r6, r7, r8⟩ := hC
            exact ⟨cell_on hb9 r1, cell_on hb9 r2, cell_on hb9 r3, cell_on hb9 r4, cell_on hb9 r5, cell_on hb9 r6, cell_on hb9 r7, cell_on hb9 r8⟩
          replace i4 := frozen_on hb9 i3 i4
          replace i3 := cell_on hb9 i3
          have B9 : Below w.heap.size w w9 := hB1.drew.trans (hb9.mono (by omega))
          clear hC HAT
          have hs9 := hb9.size
          clear hb9
          refine hK _ _ hC2 ?_
          simp only [Act.put, List.setIfInBounds_toArray, List.set_cons_succ, List.set_cons_zero]
          refine Lim.stepR 27 (fun _ => trivial) rfl (by kernel_rfl) (fun _ _ _ _ h => h) hC2 rfl ?_; apply Exists.intro; refine ⟨?_, ?_⟩
          · rintro w ⟨r1, r2, r3, r4, r5, r6, r7, r8⟩; go_simp; try with_reducible rfl
          simp only [Act.put, List.setIfInBounds_toArray, List.set_cons_succ, List.set_cons_zero]
          refine Lim.stepR 28 (fun _ => trivial) rfl (by kernel_rfl) (fun _ _ _ _ h => h) hC2 rfl ?_; apply Exists.intro; refine ⟨?_, ?_⟩
          · rintro w ⟨r1, r2, r3, r4, r5, r6, r7, r8⟩; go_simp; try with_reducible rfl
          simp only [Act.put, List.setIfInBounds_toArray, List.set_cons_succ, List.set_cons_zero]
          refine Lim.stepR 29 (fun _ => trivial) rfl (by kernel_rfl) (fun _ _ _ _ h => h) hC2 rfl ?_; apply Exists.intro; refine ⟨?_, ?_⟩
          · rintro w ⟨r1, r2, r3, r4, r5, r6, r7, r8⟩; go_simp; try with_reducible rfl
          simp only [Act.put, List.setIfInBounds_toArray, List.set_cons_succ, List.set_cons_zero]
          refine Lim.stepR 30 (fun _ => trivial) rfl (by kernel_rfl) (fun _ _ _ _ h => h) hC2 rfl ?_; apply Exists.intro; refine ⟨?_, ?_⟩
          · rintro w ⟨r1, r2, r3, r4, r5, r6, r7, r8⟩; go_simp; try with_reducible rfl
          simp only [Act.put, List.setIfInBounds_toArray, List.set_cons_succ, List.set_cons_zero]
          refine Lim.stepR 31 (fun _ => trivial) rfl (by kernel_rfl) (fun _ _ _ _ h => h) hC2 rfl ?_; apply Exists.intro; refine ⟨?_, ?_⟩
          · rintro w ⟨r1, r2, r3, r4, r5, r6, r7, r8⟩; go_simp; try with_reducible rfl
          simp only [Act.put, List.setIfInBounds_toArray, List.set_cons_succ, List.set_cons_zero]
          refine Lim.stepR 32 (fun _ => trivial) rfl (by kernel_rfl) (fun _ _ _ _ h => h) hC2 rfl ?_; apply Exists.intro; refine ⟨?_, ?_⟩
          · rintro w ⟨r1, r2, r3, r4, r5, r6, r7, r8⟩; go_simp; try with_reducible rfl
          simp only [Act.put, List.setIfInBounds_toArray, List.set_cons_succ, List.set_cons_zero]
          refine Lim.stepR 33 (fun _ => trivial) rfl (by kernel_rfl) (fun _ _ _ _ h => h) hC2 rfl ?_; apply Exists.intro; refine ⟨?_, ?_⟩
          · rintro w ⟨r1, r2, r3, r4, r5, r6, r7, r8⟩; go_simp; try with_reducible rfl
          simp only [Act.put, List.setIfInBounds_toArray, List.set_cons_succ, List.set_cons_zero]
          refine Lim.stepR 34 (fun _ => trivial) rfl (by kernel_rfl) (fun _ _ _ _ h => h) hC2 rfl ?_; apply Exists.intro; refine ⟨?_, ?_⟩
          · rintro w ⟨r1, r2, r3, r4, r5, r6, r7, r8⟩; go_simp; try with_reducible rfl
          simp only [Act.put, List.setIfInBounds_toArray, List.set_cons_succ, List.set_cons_zero]
          refine Lim.stepD (by kernel_rfl) ?_
          have m0 := hC2.1
          clear hC2
          go_wp2_with (go_at_call 82; refine (neighbours_any _ _ _ ⟨_, rfl⟩ ⟨_, rfl⟩).mono ?_; rintro e w' ⟨rfl, rfl⟩)
          generalize hW : World.alloc _ _ = W3
          have hB3 : Below w9.heap.size w9 W3 := by rw [← hW]; exact ((Below.refl _ w9).alloc (Nat.le_refl _) _).alloc (by simp) _
          have hsz3 : w9.heap.size + 2 = W3.heap.size := by rw [← hW]; simp
          have f4 : W3.cell? ⟨w9.heap.size, 0, none⟩ = some (.pointer (some ⟨b, 0, none⟩)) := by rw [← hW]; simp [go_sem]
          have f6 : W3.cell? ⟨w9.heap.size + 1, 0, none⟩ = some (.int .i64 c) := by rw [← hW]; simp [go_sem]
          clear hW
          have B3 : Below w.heap.size w W3 := B9.trans (hB3.mono B9.size)
          replace i4 := frozen_on hB3 i3 i4
          replace i3 := cell_on hB3 i3
          have hsW : w.heap.size + 1 ≤ w9.heap.size := by have := World.block_lt_of_cell? _ _ i3; omega
          have hltw : bw < w.heap.size ∧ bh < w.heap.size ∧ ba < w.heap.size := ⟨World.block_lt_of_cell? _ _ HQ.out.1, World.block_lt_of_cell? _ _ HQ.out.2.2.2.2.2.1, World.block_lt_of_cell? _ _ HQ.out.2.2.2.2.2.2.2⟩
          have hCn : Cn w9.heap.size (w9.heap.size + 1) b g.wd g.hs.length hcap c (some ⟨hb, hoff, none⟩) W3 := ⟨f4, f6, cell_below B3 HL.out.1 (by dsimp only; omega), cell_below B3 HL.out.2.1 (by dsimp only; omega)⟩
          clear f4 f6 hB3 B9 m0
          refine wp_range (xs := nbrL g.wd g.ss.length c) rfl (enters_of Try.func102 (by kernel_rfl) rfl) (Cn w9.heap.size (w9.heap.size + 1) b g.wd g.hs.length hcap c (some ⟨hb, hoff, none⟩))
            (by rw [← hg.hn]; exact nbr_iter hg.w0 hg.w1 (by omega) (by omega) hCn)
            (fun pre W => (∀ x ∈ pre, (g.ss.getD x.toNat 0 == 0 && decide (away x.toNat ≤ h)) = false) ∧ Cn w9.heap.size (w9.heap.size + 1) b g.wd g.hs.length hcap c (some ⟨hb, hoff, none⟩) W ∧ W.cell? ⟨w.heap.size, 0, none⟩ = some (.bool false) ∧ W.frozen? ⟨w.heap.size, 0, none⟩ = false ∧ Below w.heap.size w W)
            (fun j pre W => j = .ret ∧ (∃ x ∈ pre, (g.ss.getD x.toNat 0 == 0 && decide (away x.toNat ≤ h)) = true) ∧ W.cell? ⟨w.heap.size, 0, none⟩ = some (.bool false) ∧ Below w.heap.size w W)
            (fun _ _ h => h.2.1) (fun _ _ h hs => h.steady hs) ?sI ?sX ⟨by simp, hCn, i3, i4, B3⟩ ?a1 ?assign ?body ?done ?stop
          case sI => exact fun _ _ _ h hs => ⟨h.1, h.2.1.steady hs, hs.cell h.2.2.1, (hs.frozen h.2.2.1).trans h.2.2.2.1, h.2.2.2.2.steady hs (by omega) h.2.2.2.2.size⟩
          case sX => exact fun _ _ _ _ h hs => ⟨h.1, h.2.1, hs.cell h.2.2.1, h.2.2.2.steady hs (by omega) h.2.2.2.size⟩
          case assign =>
            intro l x W K hK
            gi_wp2
            exact hK
          case body =>
            rintro l pre x W hx ⟨i0, iC, j3, j4, iB⟩
            obtain ⟨k, rfl, hk⟩ := mem_nbrL hg.w0 hg.dv hc hx
            obtain ⟨z', hz'⟩ : ∃ z', z' = g.ss.getD k 0 := ⟨_, rfl⟩
            obtain ⟨ak, hak⟩ : ∃ ak, ak = away k := ⟨_, rfl⟩
            have q0 : W.cell? ⟨sb, soff + k, none⟩ = some (.int .i64 z') := by rw [hz']; exact cell_below iB (HS.out k _ (ints_at' _ _ hk)) (by dsimp only; omega)
            have q1 : W.cell? ⟨ba, k, none⟩ = some (.int .i64 ak) := by rw [hak]; exact cell_below iB (H4.out k (by omega)) (by dsimp only; omega)
            have HK := Lib.hid (And.intro hz' hak)
            have I0 := Lib.hid i0
            have hkk : (k : Int) < 100 := by omega
            clear hz' hak hx hCn i3 i4 i0
            refine wpIn_block ?_
            refine wpIn_seq_k (fun K1 hK1 => ?_)
            have hC : (fun W => W.cell? ⟨bw, 0, none⟩ = some (.pointer (some ⟨b, 0, none⟩)) ∧ W.cell? ⟨b, 2, none⟩ = some (.slice (some ⟨sb, soff, none⟩) g.ss.length scap) ∧ W.cell? ⟨sb, soff + k, none⟩ = some (.int .i64 z') ∧ W.cell? ⟨ba, k, none⟩ = some (.int .i64 ak) ∧ W.cell? ⟨bh, 0, none⟩ = some (.int .i64 h)) W.drew := ⟨cell_below iB HQ.out.1 (by dsimp only; omega), cell_below iB HQ.out.2.1 (by dsimp only; omega), q0, q1, cell_below iB HQ.out.2.2.2.2.2.1 (by dsimp only; omega)⟩
            by_cases hzk : z' = 0
            · have hzk1 : (z' == 0) = true := by simpa using hzk
              refine Lim.regC (fun W => W.cell? ⟨bw, 0, none⟩ = some (.pointer (some ⟨b, 0, none⟩)) ∧ W.cell? ⟨b, 2, none⟩ = some (.slice (some ⟨sb, soff, none⟩) g.ss.length scap) ∧ W.cell? ⟨sb, soff + k, none⟩ = some (.int .i64 z') ∧ W.cell? ⟨ba, k, none⟩ = some (.int .i64 ak) ∧ W.cell? ⟨bh, 0, none⟩ = some (.int .i64 h)) [] #[false, false, false, false, false, false, false, false, false, false, false, false, false, false, false, false] (by kernel_rfl) rfl ?_
              refine Lim.stepR 0 (fun _ => trivial) rfl (by kernel_rfl) (fun _ _ _ _ h => h) hC rfl ?_; apply Exists.intro; refine ⟨?_, ?_⟩
              · rintro w ⟨r1, r2, r3, r4, r5⟩; go_simp; try with_reducible rfl
              simp only [Act.put, List.setIfInBounds_toArray, List.set_cons_succ, List.set_cons_zero]
              refine Lim.stepR 1 (fun _ => trivial) rfl (by kernel_rfl) (fun _ _ _ _ h => h) hC rfl ?_; apply Exists.intro; refine ⟨?_, ?_⟩
              · rintro w ⟨r1, r2, r3, r4, r5⟩; go_simp; try with_reducible rfl
              simp only [Act.put, List.setIfInBounds_toArray, List.set_cons_succ, List.set_cons_zero]
              refine Lim.stepR 2 (fun _ => trivial) rfl (by kernel_rfl) (fun _ _ _ _ h => h) hC rfl ?_; apply Exists.intro; refine ⟨?_, ?_⟩
              · rintro w ⟨r1, r2, r3, r4, r5⟩; go_simp; try with_reducible rfl
              simp only [Act.put, List.setIfInBounds_toArray, List.set_cons_succ, List.set_cons_zero]
              refine Lim.stepR 3 (fun _ => trivial) rfl (by kernel_rfl) (fun _ _ _ _ h => h) hC rfl ?_; apply Exists.intro; refine ⟨?_, ?_⟩
              · rintro w ⟨r1, r2, r3, r4, r5⟩; go_simp; try with_reducible rfl
              simp only [Act.put, List.setIfInBounds_toArray, List.set_cons_succ, List.set_cons_zero]
              refine Lim.stepR 4 (fun _ => trivial) rfl (by kernel_rfl) (fun _ _ _ _ h => h) hC rfl ?_; apply Exists.intro; refine ⟨?_, ?_⟩
              · rintro w ⟨r1, r2, r3, r4, r5⟩; go_simp; try with_reducible rfl
              simp only [Act.put, List.setIfInBounds_toArray, List.set_cons_succ, List.set_cons_zero]
              refine Lim.stepR 5 (fun _ => trivial) rfl (by kernel_rfl) (fun _ _ _ _ h => h) hC rfl ?_; apply Exists.intro; refine ⟨?_, ?_⟩
              · rintro w ⟨r1, r2, r3, r4, r5⟩; go_simp; try with_reducible rfl
              simp only [Act.put, List.setIfInBounds_toArray, List.set_cons_succ, List.set_cons_zero]
              refine Lim.stepR 6 (fun _ => trivial) rfl (by kernel_rfl) (fun _ _ _ _ h => h) hC rfl ?_; apply Exists.intro; refine ⟨?_, ?_⟩
              · rintro w ⟨r1, r2, r3, r4, r5⟩; go_simp; try with_reducible rfl
              simp only [Act.put, List.setIfInBounds_toArray, List.set_cons_succ, List.set_cons_zero]
              refine Lim.stepR 7 (fun _ => trivial) rfl (by kernel_rfl) (fun _ _ _ _ h => h) hC rfl ?_; apply Exists.intro; refine ⟨?_, ?_⟩
              · rintro w ⟨r1, r2, r3, r4, r5⟩; go_simp; try with_reducible rfl
              simp only [Act.put, List.setIfInBounds_toArray, List.set_cons_succ, List.set_cons_zero]
              refine Lim.stepR 8 (fun _ => trivial) rfl (by kernel_rfl) (fun _ _ _ _ h => h) hC rfl ?_; apply Exists.intro; refine ⟨?_, ?_⟩
              · rintro w ⟨r1, r2, r3, r4, r5⟩; go_simp; try with_reducible rfl
              simp only [Act.put, List.setIfInBounds_toArray, List.set_cons_succ, List.set_cons_zero]
              refine Lim.stepR 9 (fun _ => trivial) rfl (by kernel_rfl) (fun _ _ _ _ h => h) hC rfl ?_; apply Exists.intro; refine ⟨?_, ?_⟩
              · rintro w ⟨r1, r2, r3, r4, r5⟩; go_simp; try with_reducible rfl
              simp only [Act.put, List.setIfInBounds_toArray, List.set_cons_succ, List.set_cons_zero]
              refine Lim.stepR 10 (fun _ => trivial) rfl (by kernel_rfl) (fun _ _ _ _ h => h) hC rfl ?_; apply Exists.intro; refine ⟨?_, ?_⟩
              · rintro w ⟨r1, r2, r3, r4, r5⟩; go_simp; try with_reducible rfl
              simp only [Act.put, List.setIfInBounds_toArray, List.set_cons_succ, List.set_cons_zero]
              refine Lim.stepR 11 (fun _ => trivial) rfl (by kernel_rfl) (fun _ _ _ _ h => h) hC rfl ?_; apply Exists.intro; refine ⟨?_, ?_⟩
              · rintro w ⟨r1, r2, r3, r4, r5⟩; go_simp; try with_reducible rfl
              simp only [Act.put, List.setIfInBounds_toArray, List.set_cons_succ, List.set_cons_zero]
              refine Lim.stepR 12 (fun _ => trivial) rfl (by kernel_rfl) (fun _ _ _ _ h => h) hC rfl ?_; apply Exists.intro; refine ⟨?_, ?_⟩
              · rintro w ⟨r1, r2, r3, r4, r5⟩; go_simp; try with_reducible rfl
              simp only [Act.put, List.setIfInBounds_toArray, List.set_cons_succ, List.set_cons_zero]
              refine Lim.stepR 13 (fun _ => trivial) rfl (by kernel_rfl) (fun _ _ _ _ h => h) hC rfl ?_; apply Exists.intro; refine ⟨?_, ?_⟩
              · rintro w ⟨r1, r2, r3, r4, r5⟩; go_simp; try with_reducible rfl
              simp only [Act.put, List.setIfInBounds_toArray, List.set_cons_succ, List.set_cons_zero]
              refine Lim.stepR 14 (fun _ => trivial) rfl (by kernel_rfl) (fun _ _ _ _ h => h) hC rfl ?_; apply Exists.intro; refine ⟨?_, ?_⟩
              · rintro w ⟨r1, r2, r3, r4, r5⟩; go_simp; try with_reducible rfl
              simp only [Act.put, List.setIfInBounds_toArray, List.set_cons_succ, List.set_cons_zero]
              refine Lim.stepR 15 (fun _ => trivial) rfl (by kernel_rfl) (fun _ _ _ _ h => h) hC rfl ?_; apply Exists.intro; refine ⟨?_, ?_⟩
              · rintro w ⟨r1, r2, r3, r4, r5⟩; go_simp; try with_reducible rfl
              simp only [Act.put, List.setIfInBounds_toArray, List.set_cons_succ, List.set_cons_zero]
              refine Lim.stepD (by kernel_rfl) ?_
              refine hK1 _ _ ?_
              clear hC q0 q1
              obtain ⟨d, hd⟩ : ∃ d, decide (ak ≤ h) = d := ⟨_, rfl⟩
              simp only [hd]
              have HD := Lib.hid hd
              clear hd
              cases d with
              | true =>
                gi_wp2
                exact ⟨(KeepsOthers.trans (KeepsOthers.drew W) (KeepsOthers.setCell _ _ _)).from _, rfl, ⟨k, by simp, by rw [Int.toNat_natCast, ← HK.out.1, ← HK.out.2, hzk1, HD.out]; rfl⟩, World.cell?_setCell_same' _ _ _ (by first | (rw [show W.drew.cell? _ = _ from j3]; rfl) | (rw [j3]; rfl)), (iB.drew).setCell (p := ⟨w.heap.size, 0, none⟩) (Nat.le_refl _) _⟩
              | false =>
                gi_wp2
                refine ⟨(KeepsOthers.drew W).from _, ?_, iC, j3, j4, iB.drew⟩
                intro x hx
                rcases List.mem_append.1 hx with hx | hx
                · exact I0.out x hx
                · obtain rfl : x = k := by simpa using hx
                  rw [Int.toNat_natCast, ← HK.out.1, ← HK.out.2, HD.out]; simp
            · have hzk1 : (z' == 0) = false := by simpa using hzk
              refine Lim.regC (fun W => W.cell? ⟨bw, 0, none⟩ = some (.pointer (some ⟨b, 0, none⟩)) ∧ W.cell? ⟨b, 2, none⟩ = some (.slice (some ⟨sb, soff, none⟩) g.ss.length scap) ∧ W.cell? ⟨sb, soff + k, none⟩ = some (.int .i64 z') ∧ W.cell? ⟨ba, k, none⟩ = some (.int .i64 ak) ∧ W.cell? ⟨bh, 0, none⟩ = some (.int .i64 h)) [] #[false, false, false, false, false, false, false, false, false, false, false, false, false, false, false, false] (by kernel_rfl) rfl ?_
              refine Lim.stepR 0 (fun _ => trivial) rfl (by kernel_rfl) (fun _ _ _ _ h => h) hC rfl ?_; apply Exists.intro; refine ⟨?_, ?_⟩
              · rintro w ⟨r1, r2, r3, r4, r5⟩; go_simp; try with_reducible rfl
              simp only [Act.put, List.setIfInBounds_toArray, List.set_cons_succ, List.set_cons_zero]
              refine Lim.stepR 1 (fun _ => trivial) rfl (by kernel_rfl) (fun _ _ _ _ h => h) hC rfl ?_; apply Exists.intro; refine ⟨?_, ?_⟩
              · rintro w ⟨r1, r2, r3, r4, r5⟩; go_simp; try with_reducible rfl
              simp only [Act.put, List.setIfInBounds_toArray, List.set_cons_succ, List.set_cons_zero]
              refine Lim.stepR 2 (fun _ => trivial) rfl (by kernel_rfl) (fun _ _ _ _ h => h) hC rfl ?_; apply Exists.intro; refine ⟨?_, ?_⟩
              · rintro w ⟨r1, r2, r3, r4, r5⟩; go_simp; try with_reducible rfl
              simp only [Act.put, List.setIfInBounds_toArray, List.set_cons_succ, List.set_cons_zero]
              refine Lim.stepR 3 (fun _ => trivial) rfl (by kernel_rfl) (fun _ _ _ _ h => h) hC rfl ?_; apply Exists.intro; refine ⟨?_, ?_⟩
              · rintro w ⟨r1, r2, r3, r4, r5⟩; go_simp; try with_reducible rfl
              simp only [Act.put, List.setIfInBounds_toArray, List.set_cons_succ, List.set_cons_zero]
              refine Lim.stepR 4 (fun _ => trivial) rfl (by kernel_rfl) (fun _ _ _ _ h => h) hC rfl ?_; apply Exists.intro; refine ⟨?_, ?_⟩
              · rintro w ⟨r1, r2, r3, r4, r5⟩; go_simp; try with_reducible rfl
              simp only [Act.put, List.setIfInBounds_toArray, List.set_cons_succ, List.set_cons_zero]
              refine Lim.stepR 5 (fun _ => trivial) rfl (by kernel_rfl) (fun _ _ _ _ h => h) hC rfl ?_; apply Exists.intro; refine ⟨?_, ?_⟩
              · rintro w ⟨r1, r2, r3, r4, r5⟩; go_simp; try with_reducible rfl
              simp only [Act.put, List.setIfInBounds_toArray, List.set_cons_succ, List.set_cons_zero]
              refine Lim.stepR 6 (fun _ => trivial) rfl (by kernel_rfl) (fun _ _ _ _ h => h) hC rfl ?_; apply Exists.intro; refine ⟨?_, ?_⟩
              · rintro w ⟨r1, r2, r3, r4, r5⟩; go_simp; try with_reducible rfl
              simp only [Act.put, List.setIfInBounds_toArray, List.set_cons_succ, List.set_cons_zero]
              refine Lim.stepR 7 (fun _ => trivial) rfl (by kernel_rfl) (fun _ _ _ _ h => h) hC rfl ?_; apply Exists.intro; refine ⟨?_, ?_⟩
              · rintro w ⟨r1, r2, r3, r4, r5⟩; go_simp; try with_reducible rfl
              simp only [Act.put, List.setIfInBounds_toArray, List.set_cons_succ, List.set_cons_zero]
              refine Lim.stepR 8 (fun _ => trivial) rfl (by kernel_rfl) (fun _ _ _ _ h => h) hC rfl ?_; apply Exists.intro; refine ⟨?_, ?_⟩
              · rintro w ⟨r1, r2, r3, r4, r5⟩; go_simp; try with_reducible rfl
              simp only [Act.put, List.setIfInBounds_toArray, List.set_cons_succ, List.set_cons_zero]
              refine Lim.stepR 9 (fun _ => trivial) rfl (by kernel_rfl) (fun _ _ _ _ h => h) hC rfl ?_; apply Exists.intro; refine ⟨?_, ?_⟩
              · rintro w ⟨r1, r2, r3, r4, r5⟩; go_simp; try with_reducible rfl
              simp only [Act.put, List.setIfInBounds_toArray, List.set_cons_succ, List.set_cons_zero]
              refine Lim.stepS 10 (fun _ => trivial) rfl (by kernel_rfl) (fun _ _ _ _ h => h) hC rfl ?_
              simp only [Act.put, List.setIfInBounds_toArray, List.set_cons_succ, List.set_cons_zero]
              refine Lim.stepS 11 (fun _ => trivial) rfl (by kernel_rfl) (fun _ _ _ _ h => h) hC rfl ?_
              simp only [Act.put, List.setIfInBounds_toArray, List.set_cons_succ, List.set_cons_zero]
              refine Lim.stepS 12 (fun _ => trivial) rfl (by kernel_rfl) (fun _ _ _ _ h => h) hC rfl ?_
              simp only [Act.put, List.setIfInBounds_toArray, List.set_cons_succ, List.set_cons_zero]
              refine Lim.stepS 13 (fun _ => trivial) rfl (by kernel_rfl) (fun _ _ _ _ h => h) hC rfl ?_
              simp only [Act.put, List.setIfInBounds_toArray, List.set_cons_succ, List.set_cons_zero]
              refine Lim.stepS 14 (fun _ => trivial) rfl (by kernel_rfl) (fun _ _ _ _ h => h) hC rfl ?_
              simp only [Act.put, List.setIfInBounds_toArray, List.set_cons_succ, List.set_cons_zero]
              refine Lim.stepR 15 (fun _ => trivial) rfl (by kernel_rfl) (fun _ _ _ _ h => h) hC rfl ?_; apply Exists.intro; refine ⟨?_, ?_⟩
              · rintro w ⟨r1, r2, r3, r4, r5⟩; go_simp; try with_reducible rfl
              simp only [Act.put, List.setIfInBounds_toArray, List.set_cons_succ, List.set_cons_zero]
              refine Lim.stepD (by kernel_rfl) ?_
              refine hK1 _ _ ?_
              clear hC q0 q1
              gi_wp2
              refine ⟨(KeepsOthers.drew W).from _, ?_, iC, j3, j4, iB.drew⟩
              intro x hx
              rcases List.mem_append.1 hx with hx | hx
              · exact I0.out x hx
              · obtain rfl : x = k := by simpa using hx
                rw [Int.toNat_natCast, ← HK.out.1, hzk1]; rfl
          case done =>
            rintro D W hD ⟨i0, iC, j3, j4, iB⟩ hDk
            have I0 := Lib.hid i0
            clear i0
            go_wp2
            have hk := (KeepsOthers.setCell W ⟨w.heap.size, 0, none⟩ (.bool true)).same D _ hDk rfl
            refine leaves_marks (B := W3.heap.size) _ ⟨[D], rfl, by simp, by simpa using ⟨hD, hk⟩⟩ (fun w' hs => ⟨.bool true, ?_, ?_, ?_⟩)
            · have := hs.cell (World.cell?_setCell_same' W ⟨w.heap.size, 0, none⟩ (.bool true) (by rw [j3]; rfl))
              simp [results, Try.f107, go_sem, this]
            · rw [HF.out, List.all_eq_true.2 (fun x hx => by rw [I0.out x hx]; rfl)]
            · exact (iB.setCell (p := ⟨w.heap.size, 0, none⟩) (Nat.le_refl _) _).steady hs (by omega) (by have := iB.size; simp [World.setCell]; omega)
          case stop =>
            rintro D j pre W hD hpre ⟨rfl, ⟨x, hx, hxs⟩, j3, iB⟩ hDk
            go_wp2
            refine leaves_marks (B := W3.heap.size) _ ⟨[D], rfl, by simp, by simpa using ⟨hD, hDk⟩⟩ (fun w' hs => ⟨.bool false, ?_, ?_, ?_⟩)
            · have := hs.cell j3
              simp [results, Try.f107, go_sem, this]
            · rw [HF.out, List.all_eq_false.2 ⟨x, hpre.subset hx, by rw [hxs]; simp⟩]
            · exact iB.steady hs (by omega) iB.size
  · have hz1 : (z != 0) = true := by simpa using hz0
    have HF : Hid (freeB g away h s c = false) := Lib.hid (by rw [freeB, ← HX.out.1, show (z == 0) = false from by simpa using hz0]; simp)
    have B9 : Below w.heap.size w (w.alloc (.cells #[.bool false] 4)).drew := hB1.drew
    refine Lim.regC' (fun W => W.cell? ⟨bw, 0, none⟩ = some (.pointer (some ⟨b, 0, none⟩)) ∧ W.cell? ⟨b, 2, none⟩ = some (.slice (some ⟨sb, soff, none⟩) g.ss.length scap) ∧ W.cell? ⟨sb, soff + c, none⟩ = some (.int .i64 z) ∧ W.cell? ⟨b, 1, none⟩ = some (.slice (some ⟨hb, hoff, none⟩) g.hs.length hcap) ∧ W.cell? ⟨hb, hoff + c * 2, none⟩ = some (.int .i64 lo) ∧ W.cell? ⟨bh, 0, none⟩ = some (.int .i64 h) ∧ W.cell? ⟨bo, 0, none⟩ = some (.int .i64 s) ∧ W.cell? ⟨ba, c, none⟩ = some (.int .i64 ac)) [] #[false, false, false, false, false, false, false, false, false, false, false, false, false, false, false, false, false, false, false, false, false, false, false, false, false, false, false, false, false, false, false, false, false, false, false] (by kernel_rfl) rfl ?_
    refine Lim.stepR 0 (fun _ => trivial) rfl (by kernel_rfl) (fun _ _ _ _ h => h) hC rfl ?_; apply Exists.intro; refine ⟨?_, ?_⟩
    · rintro w ⟨r1, r2, r3, r4, r5, r6, r7, r8⟩; go_simp; try with_reducible rfl
    simp only [Act.put, List.setIfInBounds_toArray, List.set_cons_succ, List.set_cons_zero]
    refine Lim.stepR 1 (fun _ => trivial) rfl (by kernel_rfl) (fun _ _ _ _ h => h) hC rfl ?_; apply Exists.intro; refine ⟨?_, ?_⟩
    · rintro w ⟨r1, r2, r3, r4, r5, r6, r7, r8⟩; go_simp; try with_reducible rfl
    simp only [Act.put, List.setIfInBounds_toArray, List.set_cons_succ, List.set_cons_zero]
    refine Lim.stepR 2 (fun _ => trivial) rfl (by kernel_rfl) (fun _ _ _ _ h => h) hC rfl ?_; apply Exists.intro; refine ⟨?_, ?_⟩
    · rintro w ⟨r1, r2, r3, r4, r5, r6, r7, r8⟩; go_simp; try with_reducible rfl
    simp only [Act.put, List.setIfInBounds_toArray, List.set_cons_succ, List.set_cons_zero]
    refine Lim.stepR 3 (fun _ => trivial) rfl (by kernel_rfl) (fun _ _ _ _ h => h) hC rfl ?_; apply Exists.intro; refine ⟨?_, ?_⟩
    · rintro w ⟨r1, r2, r3, r4, r5, r6, r7, r8⟩; go_simp; try with_reducible rfl
    simp only [Act.put, List.setIfInBounds_toArray, List.set_cons_succ, List.set_cons_zero]
    refine Lim.stepR 4 (fun _ => trivial) rfl (by kernel_rfl) (fun _ _ _ _ h => h) hC rfl ?_; apply Exists.intro; refine ⟨?_, ?_⟩
    · rintro w ⟨r1, r2, r3, r4, r5, r6, r7, r8⟩; go_simp; try with_reducible rfl
    simp only [Act.put, List.setIfInBounds_toArray, List.set_cons_succ, List.set_cons_zero]
    refine Lim.stepR 5 (fun _ => trivial) rfl (by kernel_rfl) (fun _ _ _ _ h => h) hC rfl ?_; apply Exists.intro; refine ⟨?_, ?_⟩
    · rintro w ⟨r1, r2, r3, r4, r5, r6, r7, r8⟩; go_simp; try with_reducible rfl
    simp only [Act.put, List.setIfInBounds_toArray, List.set_cons_succ, List.set_cons_zero]
    refine Lim.stepR 6 (fun _ => trivial) rfl (by kernel_rfl) (fun _ _ _ _ h => h) hC rfl ?_; apply Exists.intro; refine ⟨?_, ?_⟩
    · rintro w ⟨r1, r2, r3, r4, r5, r6, r7, r8⟩; go_simp; try with_reducible rfl
    simp only [Act.put, List.setIfInBounds_toArray, List.set_cons_succ, List.set_cons_zero]
    refine Lim.stepR 7 (fun _ => trivial) rfl (by kernel_rfl) (fun _ _ _ _ h => h) hC rfl ?_; apply Exists.intro; refine ⟨?_, ?_⟩
    · rintro w ⟨r1, r2, r3, r4, r5, r6, r7, r8⟩; go_simp; try with_reducible rfl
    simp only [Act.put, List.setIfInBounds_toArray, List.set_cons_succ, List.set_cons_zero]
    refine Lim.stepR 8 (fun _ => trivial) rfl (by kernel_rfl) (fun _ _ _ _ h => h) hC rfl ?_; apply Exists.intro; refine ⟨?_, ?_⟩
    · rintro w ⟨r1, r2, r3, r4, r5, r6, r7, r8⟩; go_simp; try with_reducible rfl
    simp only [Act.put, List.setIfInBounds_toArray, List.set_cons_succ, List.set_cons_zero]
    refine Lim.stepR 9 (fun _ => trivial) rfl (by kernel_rfl) (fun _ _ _ _ h => h) hC rfl ?_; apply Exists.intro; refine ⟨?_, ?_⟩
    · rintro w ⟨r1, r2, r3, r4, r5, r6, r7, r8⟩; go_simp; try with_reducible rfl
    simp only [Act.put, List.setIfInBounds_toArray, List.set_cons_succ, List.set_cons_zero]
    refine Lim.stepS 10 (fun _ => trivial) rfl (by kernel_rfl) (fun _ _ _ _ h => h) hC rfl ?_
    simp only [Act.put, List.setIfInBounds_toArray, List.set_cons_succ, List.set_cons_zero]
    refine Lim.stepS 11 (fun _ => trivial) rfl (by kernel_rfl) (fun _ _ _ _ h => h) hC rfl ?_
    simp only [Act.put, List.setIfInBounds_toArray, List.set_cons_succ, List.set_cons_zero]
    refine Lim.stepS 12 (fun _ => trivial) rfl (by kernel_rfl) (fun _ _ _ _ h => h) hC rfl ?_
    simp only [Act.put, List.setIfInBounds_toArray, List.set_cons_succ, List.set_cons_zero]
    refine Lim.stepS 13 (fun _ => trivial) rfl (by kernel_rfl) (fun _ _ _ _ h => h) hC rfl ?_
    simp only [Act.put, List.setIfInBounds_toArray, List.set_cons_succ, List.set_cons_zero]
    refine Lim.stepS 14 (fun _ => trivial) rfl (by kernel_rfl) (fun _ _ _ _ h => h) hC rfl ?_
    simp only [Act.put, List.setIfInBounds_toArray, List.set_cons_succ, List.set_cons_zero]
    refine Lim.stepS 15 (fun _ => trivial) rfl (by kernel_rfl) (fun _ _ _ _ h => h) hC rfl ?_
    simp only [Act.put, List.setIfInBounds_toArray, List.set_cons_succ, List.set_cons_zero]
    refine Lim.stepS 16 (fun _ => trivial) rfl (by kernel_rfl) (fun _ _ _ _ h => h) hC rfl ?_
    simp only [Act.put, List.setIfInBounds_toArray, List.set_cons_succ, List.set_cons_zero]
    refine Lim.stepS 17 (fun _ => trivial) rfl (by kernel_rfl) (fun _ _ _ _ h => h) hC rfl ?_
    simp only [Act.put, List.setIfInBounds_toArray, List.set_cons_succ, List.set_cons_zero]
    refine Lim.stepS 18 (fun _ => trivial) rfl (by kernel_rfl) (fun _ _ _ _ h => h) hC rfl ?_
    simp only [Act.put, List.setIfInBounds_toArray, List.set_cons_succ, List.set_cons_zero]
    refine Lim.stepS 19 (fun _ => trivial) rfl (by kernel_rfl) (fun _ _ _ _ h => h) hC rfl ?_
    simp only [Act.put, List.setIfInBounds_toArray, List.set_cons_succ, List.set_cons_zero]
    refine Lim.stepS 20 (fun _ => trivial) rfl (by kernel_rfl) (fun _ _ _ _ h => h) hC rfl ?_
    simp only [Act.put, List.setIfInBounds_toArray, List.set_cons_succ, List.set_cons_zero]
    refine Lim.stepR 21 (fun _ => trivial) rfl (by kernel_rfl) (fun _ _ _ _ h => h) hC rfl ?_; apply Exists.intro; refine ⟨?_, ?_⟩
    · rintro w ⟨r1, r2, r3, r4, r5, r6, r7, r8⟩; go_simp; try with_reducible rfl
    simp only [Act.put, List.setIfInBounds_toArray, List.set_cons_succ, List.set_cons_zero]
    refine Lim.stepR 22 (fun _ => trivial) rfl (by kernel_rfl) (fun _ _ _ _ h => h) hC rfl ?_; apply Exists.intro; refine ⟨?_, ?_⟩
    · rintro w ⟨r1, r2, r3, r4, r5, r6, r7, r8⟩; go_simp; try with_reducible rfl
    simp only [Act.put, List.setIfInBounds_toArray, List.set_cons_succ, List.set_cons_zero]
    refine Lim.stepS 23 (fun _ => trivial) rfl (by kernel_rfl) (fun _ _ _ _ h => h) hC rfl ?_
    simp only [Act.put, List.setIfInBounds_toArray, List.set_cons_succ, List.set_cons_zero]
    refine Lim.stepS 24 (fun _ => trivial) rfl (by kernel_rfl) (fun _ _ _ _ h => h) hC rfl ?_
    simp only [Act.put, List.setIfInBounds_toArray, List.set_cons_succ, List.set_cons_zero]
    refine Lim.stepS 25 (fun _ => trivial) rfl (by kernel_rfl) (fun _ _ _ _ h => h) hC rfl ?_
    simp only [Act.put, List.setIfInBounds_toArray, List.set_cons_succ, List.set_cons_zero]
    refine Lim.stepS 26 (fun _ => trivial) rfl (by kernel_rfl) (fun _ _ _ _ h => h) hC rfl ?_
    simp only [Act.put, List.setIfInBounds_toArray, List.set_cons_succ, List.set_cons_zero]
    refine Lim.stepR 27 (fun _ => trivial) rfl (by kernel_rfl) (fun _ _ _ _ h => h) hC rfl ?_; apply Exists.intro; refine ⟨?_, ?_⟩
    · rintro w ⟨r1, r2, r3, r4, r5, r6, r7, r8⟩; go_simp; try with_reducible rfl
    simp only [Act.put, List.setIfInBounds_toArray, List.set_cons_succ, List.set_cons_zero]
    refine Lim.stepR 28 (fun _ => trivial) rfl (by kernel_rfl) (fun _ _ _ _ h => h) hC rfl ?_; apply Exists.intro; refine ⟨?_, ?_⟩
    · rintro w ⟨r1, r2, r3, r4, r5, r6, r7, r8⟩; go_simp; try with_reducible rfl
    simp only [Act.put, List.setIfInBounds_toArray, List.set_cons_succ, List.set_cons_zero]
    refine Lim.stepS 29 (fun _ => trivial) rfl (by kernel_rfl) (fun _ _ _ _ h => h) hC rfl ?_
    simp only [Act.put, List.setIfInBounds_toArray, List.set_cons_succ, List.set_cons_zero]
    refine Lim.stepS 30 (fun _ => trivial) rfl (by kernel_rfl) (fun _ _ _ _ h => h) hC rfl ?_
    simp only [Act.put, List.setIfInBounds_toArray, List.set_cons_succ, List.set_cons_zero]
    refine Lim.stepS 31 (fun _ => trivial) rfl (by kernel_rfl) (fun _ _ _ _ h => h) hC rfl ?_
    simp only [Act.put, List.setIfInBounds_toArray, List.set_cons_succ, List.set_cons_zero]
    refine Lim.stepS 32 (fun _ => trivial) rfl (by kernel_rfl) (fun _ _ _ _ h => h) hC rfl ?_
    simp only [Act.put, List.setIfInBounds_toArray, List.set_cons_succ, List.set_cons_zero]
    refine Lim.stepS 33 (fun _ => trivial) rfl (by kernel_rfl) (fun _ _ _ _ h => h) hC rfl ?_
    simp only [Act.put, List.setIfInBounds_toArray, List.set_cons_succ, List.set_cons_zero]
    refine Lim.stepR 34 (fun _ => trivial) rfl (by kernel_rfl) (fun _ _ _ _ h => h) hC rfl ?_; apply Exists.intro; refine ⟨?_, ?_⟩
    · rintro w ⟨r1, r2, r3, r4, r5, r6, r7, r8⟩; go_simp; try with_reducible rfl
    simp only [Act.put, List.setIfInBounds_toArray, List.set_cons_succ, List.set_cons_zero]
    refine Lim.stepD (by kernel_rfl) ?_
    generalize (w.alloc (.cells #[.bool false] 4)).drew = w9 at B9 i3 i4 hs1 ⊢
    clear hC
    go_wp2
    refine leaves_marks (B := w.heap.size) _ (Marks.nil _ _) (fun w' hs => ⟨.bool false, ?_, by rw [HF.out], ?_⟩)
    · have := hs.cell (World.cell?_setCell_same' w9 ⟨w.heap.size, 0, none⟩ (.bool false) (by rw [i3]; rfl))
      simp [results, Try.f107, go_sem, this]
    · exact (B9.setCell (p := ⟨w.heap.size, 0, none⟩) (Nat.le_refl _) _).steady hs (Nat.le_refl _) (by have := B9.size; simp [World.setCell]; omega)
end Go.Proofs.Ytdgibmgifgdpbaa
/-
  Maps from numbers to truth values, in plain words; a region in which two operations may come up.
-/
namespace Go.Proofs.Ytdgibmgifgdpbaa
open Go Go.RowKit
namespace Lim

/-- block b is a map of at most n entries that has F -/
def MapB (w : World) (b n : Nat) (F : Int → Bool) : Prop := ∃ D : DataW Unit, w.ownsMap Try.prog 3 (plainElem Try.prog 4) b n D ∧ ∀ c : Int, (Lit.int .i64 c).wf = true → D.atKey (.int .i64 c) (.lit (.bool false)) = .lit (.bool (F c))
theorem MapB.made (w : World) : MapB (w.alloc (.map #[] 0)) w.heap.size 0 (fun _ => false) := ⟨.map [], World.ownsMap_made _ _ _ _, fun c _ => by simp [DataW.atKey]⟩
theorem MapB.more {w : World} {b n : Nat} {F : Int → Bool} (h : MapB w b n F) : MapB w b (n + 1) F := ⟨h.choose, h.choose_spec.1.mono (Nat.le_succ n), h.choose_spec.2⟩
theorem MapB.kept {w w' : World} {b n : Nat} {F : Int → Bool} {row : Option Nat} (h : MapB w b n F) (hg : w.grownBy w' row) (hne : some b ≠ row) : MapB w' b n F := ⟨h.choose, h.choose_spec.1.kept hg hne, h.choose_spec.2⟩
theorem MapB.lt {w : World} {b n : Nat} {F : Int → Bool} (h : MapB w b n F) : b < w.heap.size := h.choose_spec.1.lt
theorem MapB.same {w w' : World} {b n : Nat} {F : Int → Bool} (h : MapB w b n F) (hs : w'.heap[b]? = w.heap[b]?) : MapB w' b n F := by
  obtain ⟨D, ⟨es, clock, hb, r⟩, h2⟩ := h
  exact ⟨D, ⟨es, clock, hs.trans hb, r⟩, h2⟩
theorem plain_bool_inv {P : Program} {e : TypeId} (he : P.underlying e = some .bool) {v : Value} {x : Bool} {ps : List MemPlace} (h : plainElem (H := Unit) P e v = some (.lit (.bool x), ps)) : v = .bool x := by
  unfold plainElem at h
  rw [he] at h
  cases v <;> simp at h
  rw [h.1]
theorem MapB.lookup {w : World} {b n : Nat} {F : Int → Bool} (h : MapB w b n F) {c : Int} (hc : (Lit.int .i64 c).wf = true) :
    (Instr.lookup 154 (.map (some b)) (.int .i64 c) false).run Try.prog w = .ok (.bool (F c)) w := by
  obtain ⟨D, hD, hF⟩ := h
  obtain ⟨v, ps, hrun, hat⟩ := hD.lookup (Go.Maps.int_keyed Try.underlying3) Try.underlying154 (z := .bool false) (by kernel_rfl) (plainElem_bool Try.underlying4 false) (Go.Maps.keyOf_int_mk Try.underlying3 hc)
  rw [hF c hc] at hat
  rw [hrun]
  rw [plain_bool_inv Try.underlying4 hat]
theorem MapB.update {w : World} {b n : Nat} {F : Int → Bool} (h : MapB w b n F) (hn : n < maxLen) {c : Int} {v : Bool} (hc : (Lit.int .i64 c).wf = true) :
    ∃ w', (Instr.mapUpdate 154 (.map (some b)) (.int .i64 c) (.bool v)).run Try.prog w = .ok () w' ∧ MapB w' b (n + 1) (fun x => if x = c then v else F x) ∧ w.grownBy w' (some b) := by
  obtain ⟨D, hD, hF⟩ := h
  obtain ⟨w', hrun, hD', hg⟩ := hD.update (Go.Maps.int_keyed Try.underlying3) Try.underlying154 hn (Go.Maps.keyOf_int_mk Try.underlying3 hc) (plainElem_bool Try.underlying4 v)
  refine ⟨w', hrun, ⟨_, hD', fun x hx => ?_⟩, hg⟩
  by_cases e : x = c
  · subst e
    rw [Go.Maps.atKey_put_same (k := .int .i64 x) hD.isMap trivial]; simp
  · rw [Go.Maps.atKey_put_other (by simpa using e), hF x hx]; simp [e]

section
variable {F : Fence} {n : Nat} {P : Program} {Q : Exit → Act → World → Prop} {C : World → Prop} {E : List Nat} {l : List Oper}
def ok2 (ops : Array Oper) (listed : Array Bool) (i j : Nat) : Bool := noDefer ops && (Region.ready .any ops listed == [i, j])
/-- two operations may come up -/
theorem step2 (i j : Nat) {oi oj : Oper} {fuel : Nat} {listed : Array Bool} {a : Act} {w : World} (hF : ∀ f, F.fn f) (hni : nthO l i = some oi) (hnj : nthO l j = some oj) (hk : (ok2 l.toArray listed i j && !E.contains i && !E.contains j) = true)
    (hwi : Region.wanted oi (yielded l.toArray a.tmps) = true) (hwj : Region.wanted oj (yielded l.toArray a.tmps) = true)
    (hi : ∀ K : Act → World → Prop, (∀ a' w', C w' → anyC F n P l.toArray Q C E fuel (listed.setIfInBounds i true) a' w' → K a' w') → oi.uponIn F n P a K Q ((execOp a.eval oi).run P w))
    (hj : ∀ K : Act → World → Prop, (∀ a' w', C w' → anyC F n P l.toArray Q C E fuel (listed.setIfInBounds j true) a' w' → K a' w') → oj.uponIn F n P a K Q ((execOp a.eval oj).run P w)) :
    anyC F n P l.toArray Q C E (fuel + 1) listed a w := by
  have hgi : l.toArray[i]? = some oi := (nthO_eq l i).trans hni
  have hgj : l.toArray[j]? = some oj := (nthO_eq l j).trans hnj
  simp only [ok2, Bool.and_eq_true, beq_iff_eq] at hk
  obtain ⟨⟨⟨hk1, hk2⟩, hk3⟩, hk4⟩ := hk
  have hiE : ¬ i ∈ E := by simpa using hk3
  have hjE : ¬ j ∈ E := by simpa using hk4
  refine ⟨fun h0 => (by rw [hk2] at h0; cases h0), fun k hk => ?_⟩
  rw [hk2] at hk
  have hk : k = i ∨ k = j := by simpa using hk
  rcases hk with rfl | rfl
  · unfold Go.wpOpIn
    simp only [hgi, hwi, if_true]
    refine ⟨fun f _ => hF f, ?_⟩
    rw [Oper.semAt_eq _ _ _ (noDefer_spec hk1 hgi)]
    exact hi _ (fun a' w' hC h' => .inr ⟨hiE, hC, h'⟩)
  · unfold Go.wpOpIn
    simp only [hgj, hwj, if_true]
    refine ⟨fun f _ => hF f, ?_⟩
    rw [Oper.semAt_eq _ _ _ (noDefer_spec hk1 hgj)]
    exact hj _ (fun a' w' hC h' => .inr ⟨hjE, hC, h'⟩)
end
end Lim
end Go.Proofs.Ytdgibmgifgdpbaa
/-
  Where a cell can drain: the contract of ridge's method lower.
-/
namespace Go.Proofs.Ytdgibmgifgdpbaa
open Go.RowKit Go.Shelf
open Lim

theorem never_any (c : Value) (w : World) : Calls Try.prog 108 #[c] w fun e w' => e = .returned (.bool false) ∧ w = w' := by
  go_enter Try.func108, Try.ntmps108
  go_wp2
  go_ret
  exact ⟨rfl, rfl⟩
theorem asks_never {B b : Nat} {g : Gd} {w : World} : Asks B b 108 #[] g (fun _ => false) w := by
  intro k hk W hgr hwk
  have := never_any (.int .i64 k) W
  simp only [Array.append_empty]
  exact this.mono (fun e w' h => ⟨h.1, by rw [← h.2]; exact Below.refl _ _⟩)
theorem asks_free {B b bw bh bo ba : Nat} {g : Gd} {away : Nat → Int} {h s : Int} {w : World} (hg : g.Ok) (hB : B ≤ b) (h1 : w.cell? ⟨bw, 0, none⟩ = some (.pointer (some ⟨b, 0, none⟩))) (h2 : w.cell? ⟨bh, 0, none⟩ = some (.int .i64 h))
    (h3 : w.cell? ⟨bo, 0, none⟩ = some (.int .i64 s)) (h4 : w.rangeAt ba 0 (lev away)) (n1 : bw ≠ b) (n2 : bh ≠ b) (n3 : bo ≠ b) (n4 : ba ≠ b) :
    Asks B b 107 #[.pointer (some ⟨bw, 0, none⟩), .pointer (some ⟨bh, 0, none⟩), .pointer (some ⟨bo, 0, none⟩), .pointer (some ⟨ba, 0, none⟩)] g (fun c => freeB g away h s c) w := by
  intro k hk W hgr hwk
  have hlt := hwk.lt
  exact free_any hg hk (hwk.at hlt (by omega)) (hgr.cell h1 (fun e => n1 (by simpa using e))) (hgr.cell h2 (fun e => n2 (by simpa using e))) (hgr.cell h3 (fun e => n3 (by simpa using e))) (fun j hj => hgr.cell (lev_at h4 hj) (fun e => n4 (by simpa using e)))

/-- a hundred truth values as cells -/
def bls (o : Nat → Bool) : List Value := (List.range 100).map fun c => .bool (o c)
theorem bls_length (o : Nat → Bool) : (bls o).length = 100 := by simp [bls]
theorem bls_size (o : Nat → Bool) : (bls o).toArray.size = 100 := by simp [bls]
theorem bls_at (o : Nat → Bool) {k : Nat} (hk : k < 100) : (bls o)[k]? = some (.bool (o k)) := by simp [bls, hk]
theorem zeroBools : Try.zeroCells141 = (List.replicate 100 (Value.bool false)).toArray := by kernel_rfl
theorem sizeBools : (Try.prog.info? 141).map (·.size) = some 100 := by kernel_rfl
theorem range_of_met {w : World} {b : Nat} {M : Nat → Bool} (h : MetAt w b M) : w.rangeAt b 3 (bls M) := by
  intro j v hj
  have hlt : j < 100 := by have := (List.getElem?_eq_some_iff.1 hj).1; rw [bls_length] at this; exact this
  rw [bls_at M hlt] at hj
  cases hj
  exact (h j hlt).1

theorem far_cell {w w' : World} {r a j : Nat} {u : Value} (hg : w.grownBy w' (some r)) (h : w.cell? ⟨a, j, none⟩ = some u) (hne : a ≠ r) : w'.cell? ⟨a, j, none⟩ = some u := hg.cell h (fun e => hne (by simpa using e))
theorem far_frozen {w w' : World} {r a j : Nat} {u : Value} (hg : w.grownBy w' (some r)) (h : w.cell? ⟨a, j, none⟩ = some u) (hne : a ≠ r) (hf : w.frozen? ⟨a, j, none⟩ = false) : w'.frozen? ⟨a, j, none⟩ = false :=
  (hg.frozen_far ⟨a, j, none⟩ (World.block_lt_of_cell? _ _ h) (fun e => hne (by simpa using e))).trans hf
structure LowMem (B : Nat) (w : World) (b : Nat) (g : Gd) (s : Int) (mn : Nat) (T : Int → Bool) (o : Nat → Bool) (wr : World) : Prop where
  c0 : wr.cell? ⟨w.heap.size, 0, none⟩ = some (.pointer (some ⟨b, 0, none⟩))
  c1 : wr.cell? ⟨w.heap.size + 1, 0, none⟩ = some (.int .i64 s)
  z : ∀ j, j < 100 → ∃ v, wr.cell? ⟨w.heap.size + 1 + 1, j, none⟩ = some v ∧ wr.frozen? ⟨w.heap.size + 1 + 1, j, none⟩ = false
  o : ∀ j, j < 100 → wr.cell? ⟨w.heap.size + 1 + 1 + 1, j, none⟩ = some (.bool (o j)) ∧ wr.frozen? ⟨w.heap.size + 1 + 1 + 1, j, none⟩ = false
  mp : MapB wr (w.heap.size + 1 + 1 + 1 + 1) mn T
  wk : WorkIn B wr b g
  met : ∃ M, MetAt wr b M
  gb : w.grownBy wr (some b)
  lt : b < w.heap.size
  ge : B ≤ b
section
variable {B : Nat} {w : World} {b : Nat} {g : Gd} {s : Int} {mn : Nat} {T : Int → Bool} {o : Nat → Bool} {wr w' : World}
theorem LowMem.size (h : LowMem B w b g s mn T o wr) : w.heap.size + 5 ≤ wr.heap.size := by have := h.mp.lt; omega
theorem LowMem.more (h : LowMem B w b g s mn T o wr) : LowMem B w b g s (mn + 1) T o wr := ⟨h.c0, h.c1, h.z, h.o, h.mp.more, h.wk, h.met, h.gb, h.lt, h.ge⟩
theorem LowMem.below (h : LowMem B w b g s mn T o wr) (hb : Below wr.heap.size wr w') : LowMem B w b g s mn T o w' := by
  have hs := h.size
  have := h.lt
  have := h.ge
  refine ⟨cell_on hb h.c0, cell_on hb h.c1, fun j hj => ?_, fun j hj => ?_, h.mp.same (hb.block _ (by omega)), h.wk.below hb (by omega), let ⟨M, hM⟩ := h.met; ⟨M, hM.below hb⟩, grown_below h.gb hb, h.lt, h.ge⟩
  · obtain ⟨v, h1, h2⟩ := h.z j hj; exact ⟨v, cell_on hb h1, frozen_on hb h1 h2⟩
  · obtain ⟨h1, h2⟩ := h.o j hj; exact ⟨cell_on hb h1, frozen_on hb h1 h2⟩
/-- the ground at work has turned -/
theorem LowMem.worked {M : Nat → Bool} (h : LowMem B w b g s mn T o wr) (hg : wr.grownBy w' (some b)) (hw : WorkIn B w' b g) (hm : MetAt w' b M) : LowMem B w b g s mn T o w' := by
  have hs := h.size
  have hlt := h.lt
  have hc : ∀ {a j : Nat} {u : Value}, wr.cell? ⟨a, j, none⟩ = some u → w.heap.size ≤ a → w'.cell? ⟨a, j, none⟩ = some u := fun h hle => far_cell hg h (by omega)
  have hf : ∀ {a j : Nat} {u : Value}, wr.cell? ⟨a, j, none⟩ = some u → w.heap.size ≤ a → wr.frozen? ⟨a, j, none⟩ = false → w'.frozen? ⟨a, j, none⟩ = false := fun h hle hf => far_frozen hg h (by omega) hf
  refine ⟨hc h.c0 (by omega), hc h.c1 (by omega), fun j hj => ?_, fun j hj => ?_, h.mp.kept hg (by simp; omega), hw, ⟨M, hm⟩, grown_but h.gb hg (fun r e => .inl e.symm), hlt, h.ge⟩
  · obtain ⟨v, h1, h2⟩ := h.z j hj; exact ⟨v, hc h1 (by omega), hf h1 (by omega) h2⟩
  · obtain ⟨h1, h2⟩ := h.o j hj; exact ⟨hc h1 (by omega), hf h1 (by omega) h2⟩
/-- a height is noted -/
theorem LowMem.note {mn' : Nat} {T' : Int → Bool} (h : LowMem B w b g s mn T o wr) (hm : MapB w' (w.heap.size + 1 + 1 + 1 + 1) mn' T') (hg : wr.grownBy w' (some (w.heap.size + 1 + 1 + 1 + 1))) : LowMem B w b g s mn' T' o w' := by
  have hs := h.size
  have hlt := h.lt
  have hge := h.ge
  have hc : ∀ {a j : Nat} {u : Value}, wr.cell? ⟨a, j, none⟩ = some u → a < w.heap.size + 1 + 1 + 1 + 1 → w'.cell? ⟨a, j, none⟩ = some u := fun h hle => far_cell hg h (by omega)
  have hf : ∀ {a j : Nat} {u : Value}, wr.cell? ⟨a, j, none⟩ = some u → a < w.heap.size + 1 + 1 + 1 + 1 → wr.frozen? ⟨a, j, none⟩ = false → w'.frozen? ⟨a, j, none⟩ = false := fun h hle hf => far_frozen hg h (by omega) hf
  refine ⟨hc h.c0 (by omega), hc h.c1 (by omega), fun j hj => ?_, fun j hj => ?_, hm, h.wk.grown hg (by simp; omega) (by omega) (fun r e => by cases e; omega), let ⟨M, hM⟩ := h.met; ⟨M, hM.grown hg (by simp; omega)⟩, grown_but h.gb hg (fun r e => by cases e; exact .inr (by omega)), hlt, hge⟩
  · obtain ⟨v, h1, h2⟩ := h.z j hj; exact ⟨v, hc h1 (by omega), hf h1 (by omega) h2⟩
  · obtain ⟨h1, h2⟩ := h.o j hj; exact ⟨hc h1 (by omega), hf h1 (by omega) h2⟩
/-- a cell is said -/
theorem LowMem.say (h : LowMem B w b g s mn T o wr) {k : Nat} (hk : k < 100) (d : Bool) : LowMem B w b g s mn T (fun c => if c = k then d else o c) (wr.setCell ⟨w.heap.size + 1 + 1 + 1, k, none⟩ (.bool d)) := by
  have hs := h.size
  have hlt := h.lt
  have hge := h.ge
  have hg := grownBy_setCell wr ⟨w.heap.size + 1 + 1 + 1, k, none⟩ (.bool d)
  refine ⟨?_, ?_, fun j hj => ?_, fun j hj => ⟨?_, ?_⟩, h.mp.kept hg (by simp), h.wk.grown hg (by simp; omega) (by omega) (fun r e => by cases e; dsimp only; omega), let ⟨M, hM⟩ := h.met; ⟨M, hM.grown hg (by simp; omega)⟩, grown_but h.gb hg (fun r e => by cases e; exact .inr (by dsimp only; omega)), hlt, hge⟩
  · rw [setCell_far _ _ (by omega)]; exact h.c0
  · rw [setCell_far _ _ (by omega)]; exact h.c1
  · obtain ⟨v, h1, h2⟩ := h.z j hj; exact ⟨v, by rw [setCell_far _ _ (by omega)]; exact h1, by rw [World.frozen?_setCell]; exact h2⟩
  · by_cases e : j = k
    · subst e; simp only [if_pos rfl]; exact World.cell?_setCell_same' _ _ _ (by rw [(h.o j hj).1]; rfl)
    · simp only [if_neg e]; rw [setCell_off _ _ (by omega)]; exact (h.o j hj).1
  · rw [World.frozen?_setCell]; exact (h.o j hj).2
theorem LowMem.range (h : LowMem B w b g s mn T o wr) : wr.rangeAt (w.heap.size + 1 + 1 + 1) 0 (bls o) := by
  intro j v hj
  have hlt : j < 100 := by have := (List.getElem?_eq_some_iff.1 hj).1; rw [bls_length] at this; exact this
  rw [bls_at o hlt] at hj
  cases hj
  rw [Nat.zero_add]; exact (h.o j hlt).1
theorem LowMem.there (h : LowMem B w b g s mn T o wr) : wr.there (w.heap.size + 1 + 1) 0 100 := by
  intro j hj
  obtain ⟨v, h1, h2⟩ := h.z j hj
  rw [Nat.zero_add]; exact ⟨by rw [h1]; rfl, h2⟩
theorem LowMem.start {M : Nat → Bool} (hw : WorkIn B w b g) (hm : MetAt w b M) (hB : B ≤ b) : LowMem B w b g s 0 (fun _ => false) (fun _ => false)
    (((((w.alloc (.cells #[.pointer (some ⟨b, 0, none⟩)] 98)).alloc (.cells #[.int .i64 s] 3)).alloc (.cells Try.zeroCells141 141)).alloc (.cells Try.zeroCells141 141)).alloc (.map #[] 0)) := by
  have hlt := hw.lt
  have hz : Try.zeroCells141.size = 100 := by rw [zeroBools]; rfl
  have hzk : ∀ k (h : k < Try.zeroCells141.size), Try.zeroCells141[k] = .bool false := fun k h => List.eq_of_mem_replicate (n := 100) ((congrArg (fun l => Try.zeroCells141[k] ∈ l) (congrArg Array.toList zeroBools : Try.zeroCells141.toList = List.replicate 100 (Value.bool false))).mp (Array.getElem_mem_toList h))
  have hn : ∀ (w : World) (j : Nat) (v : Value), w.heap.size = j → ∀ t, (w.alloc (.cells #[v] t)).cell? ⟨j, 0, none⟩ = some v := by rintro w _ v rfl t; exact cell_new w #[v] t 0 (by simp)
  have hz1 : ∀ (w : World) (j k : Nat), w.heap.size = j → k < 100 → (w.alloc (.cells Try.zeroCells141 141)).cell? ⟨j, k, none⟩ = some (.bool false) ∧ (w.alloc (.cells Try.zeroCells141 141)).frozen? ⟨j, k, none⟩ = false := by
    rintro w _ k rfl hk
    exact ⟨by rw [cell_new w _ 141 k (by omega), hzk], frozen_new w _ 141 k (by omega)⟩
  have hb : Below w.heap.size w (((((w.alloc (.cells #[.pointer (some ⟨b, 0, none⟩)] 98)).alloc (.cells #[.int .i64 s] 3)).alloc (.cells Try.zeroCells141 141)).alloc (.cells Try.zeroCells141 141)).alloc (.map #[] 0)) := (((((Below.refl _ w).alloc (Nat.le_refl _) _).alloc (by simp) _).alloc (by simp; omega) _).alloc (by simp; omega) _).alloc (by simp; omega) _
  refine ⟨cell_al _ (cell_al _ (cell_al _ (cell_al _ (hn _ _ _ rfl _)))), cell_al _ (cell_al _ (cell_al _ (hn _ _ _ (by simp) _))), fun k hk => ?_, fun k hk => ?_, ?_, hw.below hb (by omega), ⟨M, hm.below hb⟩, ⟨hb.os, hb.tape, hb.output, hb.size, fun k hk _ => hb.block k hk⟩, hlt, hB⟩
  · obtain ⟨h1, h2⟩ := hz1 ((w.alloc (.cells #[.pointer (some ⟨b, 0, none⟩)] 98)).alloc (.cells #[.int .i64 s] 3)) (w.heap.size + 1 + 1) k (by simp) hk
    exact ⟨_, cell_al _ (cell_al _ h1), frozen_on ((Below.refl _ _).alloc (Nat.le_refl _) _) (cell_al _ h1) (frozen_on ((Below.refl _ _).alloc (Nat.le_refl _) _) h1 h2)⟩
  · obtain ⟨h1, h2⟩ := hz1 (((w.alloc (.cells #[.pointer (some ⟨b, 0, none⟩)] 98)).alloc (.cells #[.int .i64 s] 3)).alloc (.cells Try.zeroCells141 141)) (w.heap.size + 1 + 1 + 1) k (by simp) hk
    exact ⟨cell_al _ h1, frozen_on ((Below.refl _ _).alloc (Nat.le_refl _) _) h1 h2⟩
  · have := MapB.made ((((w.alloc (.cells #[.pointer (some ⟨b, 0, none⟩)] 98)).alloc (.cells #[.int .i64 s] 3)).alloc (.cells Try.zeroCells141 141)).alloc (.cells Try.zeroCells141 141))
    simpa using this
end
end Go.Proofs.Ytdgibmgifgdpbaa
/-
  Where a cell can drain: the contract of ridge's method lower.
-/
namespace Go.Proofs.Ytdgibmgifgdpbaa
open Go.RowKit Go.Shelf
open Lim

/-- what lower has found behind the first k heights -/
def LowTo (g : Gd) (away : Nat → Int) (sea other : Int) (k : Nat) (T : Int → Bool) (o : Nat → Bool) : Prop :=
  (∀ h, T h = true ↔ ∃ i, i < k ∧ (g.hs.getD i (0, 0)).1 = h) ∧ ∀ c, o c = true ↔ c < 100 ∧ ∃ i, i < k ∧ Re g (fun c => land g c ∧ freeB g away ((g.hs.getD i (0, 0)).1) other c = true) (fun c => atB g c sea = true) c
theorem LowTo.zero (g : Gd) (away : Nat → Int) (sea other : Int) : LowTo g away sea other 0 (fun _ => false) (fun _ => false) := ⟨fun h => by simp, fun c => by simp⟩
theorem LowTo.again {g : Gd} {away : Nat → Int} {sea other : Int} {k : Nat} {T : Int → Bool} {o : Nat → Bool} (h : LowTo g away sea other k T o) (ht : T ((g.hs.getD k (0, 0)).1) = true) : LowTo g away sea other (k + 1) T o := by
  obtain ⟨j, hj, ej⟩ := (h.1 _).1 ht
  refine ⟨fun x => ?_, fun c => ?_⟩
  · rw [h.1]
    refine ⟨fun ⟨i, hi, e⟩ => ⟨i, by omega, e⟩, fun ⟨i, hi, e⟩ => ?_⟩
    by_cases e2 : i = k
    · subst e2; exact ⟨j, hj, ej.trans e⟩
    · exact ⟨i, by omega, e⟩
  · rw [h.2]
    refine ⟨fun ⟨h1, i, hi, e⟩ => ⟨h1, i, by omega, e⟩, fun ⟨h1, i, hi, e⟩ => ⟨h1, ?_⟩⟩
    by_cases e2 : i = k
    · subst e2; rw [← ej] at e; exact ⟨j, hj, e⟩
    · exact ⟨i, by omega, e⟩
theorem LowTo.more {g : Gd} {away : Nat → Int} {sea other : Int} {k : Nat} {T : Int → Bool} {o M : Nat → Bool} {x : Int} (h : LowTo g away sea other k T o) (hx : x = (g.hs.getD k (0, 0)).1)
    (hM : ∀ c, M c = true ↔ Re g (fun c => land g c ∧ freeB g away ((g.hs.getD k (0, 0)).1) other c = true) (fun c => atB g c sea = true) c) : LowTo g away sea other (k + 1) (fun h => if h = x then true else T h) (fun c => o c || (decide (c < 100) && M c)) := by
  refine ⟨fun y => ?_, fun c => ?_⟩
  · by_cases e : y = x
    · simp only [if_pos e, true_iff]; exact ⟨k, by omega, by rw [e, hx]⟩
    · simp only [if_neg e]; rw [h.1]
      refine ⟨fun ⟨i, hi, e⟩ => ⟨i, by omega, e⟩, fun ⟨i, hi, e2⟩ => ?_⟩
      by_cases e3 : i = k
      · subst e3; exact absurd (by rw [hx]; exact e2.symm) e
      · exact ⟨i, by omega, e2⟩
  · simp only [Bool.or_eq_true, Bool.and_eq_true, decide_eq_true_eq]
    rw [h.2, hM]
    refine ⟨fun h1 => ?_, fun ⟨h1, i, hi, e⟩ => ?_⟩
    · rcases h1 with ⟨h1, i, hi, e⟩ | ⟨h1, e⟩
      · exact ⟨h1, i, by omega, e⟩
      · exact ⟨h1, k, by omega, e⟩
    · by_cases e3 : i = k
      · subst e3; exact .inr ⟨h1, e⟩
      · exact .inl ⟨h1, i, by omega, e⟩

/-- what lower answers -/
def LowAns (g : Gd) (sea other : Int) (o : Nat → Bool) : Prop :=
  ∃ away, IsPass g (highT g) other away ∧ ∀ c, o c = true ↔ c < 100 ∧ ∃ i, i < g.hs.length ∧ Re g (fun c => land g c ∧ freeB g away ((g.hs.getD i (0, 0)).1) other c = true) (fun c => atB g c sea = true) c

/-- the frame of lower behind its drawn region -/
def LF (w : World) (b hbx ba hb hoff hcap n k : Nat) (sea other : Int) (a : Act) : Prop :=
  a = { tmps := #[.pointer (some ⟨b, 0, none⟩), .int .i64 sea, .int .i64 other, .pointer (some ⟨w.heap.size, 0, none⟩), undef, .pointer (some ⟨w.heap.size + 1, 0, none⟩), .pointer (some ⟨w.heap.size + 1 + 1, 0, none⟩), .pointer (some ⟨w.heap.size + 1 + 1 + 1, 0, none⟩), .map (some (w.heap.size + 1 + 1 + 1 + 1)), undef, Lim.sl a 10, .pointer (some ⟨hbx, 0, none⟩), .pointer (some ⟨ba, 0, none⟩), Lim.sl a 13, Lim.sl a 14, Lim.sl a 15, .map (some (w.heap.size + 1 + 1 + 1 + 1)), .pointer (some ⟨b, 0, none⟩), .pointer (some ⟨b, 0, none⟩), .pointer (some ⟨b, 0, none⟩), .pointer (some ⟨b, 1, none⟩), .slice (some ⟨hb, hoff, none⟩) n hcap, .int .i64 n, .int .i64 k, Lim.sl a 24, Lim.sl a 25, Lim.sl a 26, Lim.sl a 27, Lim.sl a 28, Lim.sl a 29, Lim.sl a 30, Lim.sl a 31, Lim.sl a 32, Lim.sl a 33, Lim.sl a 34, Lim.sl a 35, Lim.sl a 36, Lim.sl a 37, Lim.sl a 38, Lim.sl a 39, Lim.sl a 40, Lim.sl a 41, Lim.sl a 42, Lim.sl a 43, Lim.sl a 44, Lim.sl a 45, Lim.sl a 46, Lim.sl a 47, Lim.sl a 48, Lim.sl a 49, Lim.sl a 50, Lim.sl a 51, Lim.sl a 52, Lim.sl a 53, Lim.sl a 54, Lim.sl a 55, Lim.sl a 56, Lim.sl a 57, Lim.sl a 58, Lim.sl a 59, Lim.sl a 60, Lim.sl a 61, Lim.sl a 62, Lim.sl a 63, Lim.sl a 64, undef], defers := [] }

theorem bls_one (o : Nat → Bool) : (bls o).toArray.all (·.oneCell') = true := all_oneCell_toArray (fun v hv => by simp [bls] at hv; obtain ⟨c, _, rfl⟩ := hv; rfl)
theorem run_index_bls (M : Nat → Bool) {j : Nat} (hj : j < 100) (w : World) : (Instr.index 141 (.agg (bls M).toArray) (.int .i64 j)).run Try.prog w = .ok (.bool (M j)) w := by
  have hu : (underlying 141).run Try.prog w = .ok (.array 100 4) w := run_underlying Try.underlying141 ..
  simp [Instr.index, asIntOf, hu, part, Try.isAgg4, Try.sizeOf4, bls_at M hj, hj]
theorem range_below {w w' : World} {b o : Nat} {vs : List Value} (h : w.rangeAt b o vs) (hb : Below w.heap.size w w') : w'.rangeAt b o vs := fun j v hj => cell_on hb (h j v hj)
theorem freeB_congr {g : Gd} (hg : g.Ok) {p q : Nat → Int} (h : ∀ c, c < g.n → p c = q c) {x s : Int} {c : Nat} (hc : c < g.n) : freeB g p x s c = freeB g q x s c := by
  have e : (nbrL g.wd g.ss.length c).all (fun y => !(g.ss.getD y.toNat 0 == 0 && decide (p y.toNat ≤ x))) = (nbrL g.wd g.ss.length c).all (fun y => !(g.ss.getD y.toNat 0 == 0 && decide (q y.toNat ≤ x))) := by
    rw [Bool.eq_iff_iff, List.all_eq_true, List.all_eq_true]
    have key : ∀ y ∈ nbrL g.wd g.ss.length c, p y.toNat = q y.toNat := fun y hy => by
      obtain ⟨k, rfl, hk⟩ := mem_nbrL hg.w0 hg.dv hc hy
      exact h k hk
    exact ⟨fun h2 y hy => by rw [← key y hy]; exact h2 y hy, fun h2 y hy => by rw [key y hy]; exact h2 y hy⟩
  unfold freeB
  rw [h c hc, e]
theorem there_below {w w' : World} {b o n : Nat} (h : w.there b o n) (hb : Below w.heap.size w w') : w'.there b o n := by
  intro j hj
  obtain ⟨h1, h2⟩ := h j hj
  obtain ⟨v, hv⟩ := Option.isSome_iff_exists.1 h1
  exact ⟨by rw [cell_on hb hv]; rfl, frozen_on hb hv h2⟩

set_option maxRecDepth 100000 in
set_option maxHeartbeats 4000000 in
theorem lower_any {B b : Nat} {g : Gd} {sea other : Int} {w : World} {M : Nat → Bool} (hg : g.Ok) (hbs : badSpan g.hs = false) (hB : B ≤ b) (hw : WorkIn B w b g) (hm : MetAt w b M) (away : Nat → Int) (hA : IsPass g (highT g) other away) :
    Calls Try.prog 93 #[.pointer (some ⟨b, 0, none⟩), .int .i64 sea, .int .i64 other] w fun e w' => ∃ o, e = .returned (.agg (bls o).toArray) ∧ LowAns g sea other o ∧ w.grownBy w' (some b) ∧ WorkIn B w' b g ∧ ∃ M', MetAt w' b M' := by
  have hbw := hw.lt
  have hn : g.ss.length ≤ 100 := hg.n1
  have hhn : g.hs.length = g.ss.length := hg.hn
  have HBS := Lib.hid hbs
  have HA := Lib.hid hA
  have M0 := LowMem.start (s := other) hw hm hB
  have HHN := Lib.hid hhn
  obtain ⟨hv, hc1, hRS⟩ := hw.c1
  have HRS := Lib.hid hRS
  obtain ⟨ha, hcap, rfl, -⟩ := hRS
  clear hw hm hbs hA hhn
  go_enter Try.func93, Try.ntmps93
  go_wp2_with fail
  rw [run_makeMap]
  have q1 : (((((w.alloc (.cells #[.pointer (some ⟨b, 0, none⟩)] 98)).alloc (.cells #[.int .i64 other] 3)).alloc (.cells Try.zeroCells141 141)).alloc (.cells Try.zeroCells141 141)).alloc (.map #[] 0)).cell? ⟨b, 1, none⟩ = some (.slice ha g.hs.length hcap) := cell_al _ (cell_al _ (cell_al _ (cell_al _ (cell_al _ hc1))))
  go_wp2_with fail
  generalize hW : World.alloc _ _ = W3
  rw [hW] at M0
  clear hW q1 hc1
  go_loopw [23] (fun i wr => ∃ (k : Nat) (T : Int → Bool) (o : Nat → Bool), k ≤ g.hs.length ∧ i = .int .i64 k ∧ LowMem B w b g other k T o wr ∧ Hid (LowTo g away sea other k T o)) (fun i _ => g.hs.length - (intOf i).toNat)
  case atStart => exact ⟨0, _, _, Nat.zero_le _, rfl, M0, Lib.hid (LowTo.zero g away sea other)⟩
  case round =>
    clear M0
    obtain ⟨k, T, o, hk, rfl, L, hP⟩ := hrel
    by_cases hlt : k < g.hs.length
    · obtain ⟨ha', hcap', e1, hsc⟩ := HRS.out.grown L.gb (fun r e => by cases e; exact hB)
      obtain ⟨hb, hoff, e2, hhb, hcell⟩ := hsc (spans_ne (by omega))
      obtain ⟨rfl, rfl⟩ : ha = ha' ∧ hcap = hcap' := by simpa using e1
      subst e2
      have hkl : k < 100 := by have := HHN.out; omega
      have m0 := L.c0
      have m1 := L.c1
      obtain ⟨lo, hlo⟩ : ∃ lo, lo = (g.hs.getD k (0, 0)).1 := ⟨_, rfl⟩
      obtain ⟨up, hup⟩ : ∃ up, up = (g.hs.getD k (0, 0)).2 := ⟨_, rfl⟩
      have q0 : wr.cell? ⟨hb, hoff + k * 2, none⟩ = some (.int .i64 lo) := by rw [hlo, List.getD_eq_getElem?_getD, List.getElem?_eq_getElem hlt]; exact hcell _ _ (spans_lo _ k hlt)
      have q1 : wr.cell? ⟨hb, hoff + k * 2 + 1, none⟩ = some (.int .i64 up) := by rw [hup, List.getD_eq_getElem?_getD, List.getElem?_eq_getElem hlt]; exact hcell _ _ (spans_hi _ k hlt)
      have hlw : (Lit.int .i64 lo).wf = true := by have := goodSpan HBS.out hlt; rw [hlo]; exact WalkArith.wf_i64 ⟨by omega, by omega⟩
      have HLO := Lib.hid (And.intro hlo hlw)
      clear hlo hup hcell hsc hlw e1
      have B1 : Below wr.heap.size wr ((wr.alloc (.cells #[.int .i64 lo, .int .i64 up] 54)).alloc (.cells #[.int .i64 lo] 3)) := ((Below.refl _ wr).alloc (Nat.le_refl _) _).alloc (by simp) _
      have L1 := L.below B1
      have hlk := L1.mp.lookup HLO.out.2
      cases ht : T lo with
      | true =>
        rw [ht] at hlk
        have HT := Lib.hid ht
        clear ht
        go_wp2
        go_roundw
        case rel => exact ⟨k + 1, T, o, by omega, by go_num, L1.more, Lib.hid (hP.out.again (by rw [← HLO.out.1]; exact HT.out))⟩
        case measure => simp [intOf]; omega
      | false =>
        rw [ht] at hlk
        clear ht
        obtain ⟨w4, hrun, hmap, hgr⟩ := L1.mp.update (c := lo) (v := true) (by unfold maxLen; omega) HLO.out.2
        have L4 := L1.note hmap hgr
        have hh4 : w4.cell? ⟨wr.heap.size + 1, 0, none⟩ = some (.int .i64 lo) := by
          refine far_cell hgr ?_ (by have := L.size; omega)
          have := cell_new (wr.alloc (.cells #[.int .i64 lo, .int .i64 up] 54)) #[.int .i64 lo] 3 0 (by simp)
          rw [World.size_alloc] at this
          exact this
        have hs4 : wr.heap.size + 2 ≤ w4.heap.size := by have := hgr.size; simpa using this
        clear hmap hgr B1 L1
        go_wp2_with fail
        rename_i K1 hK1
        have rest : ∀ (ba : Nat) (oo : Nat → Int) (a : Act) (W : World), LF w b (wr.heap.size + 1) ba hb hoff hcap g.hs.length k sea other a → Below w4.heap.size w4 W → w4.heap.size ≤ ba → W.rangeAt ba 0 (lev oo) → Hid (IsPass g (highT g) other oo) → K1 a W := by
          intro ba oo a W hfr hBW hba hrg hpass
          have hEQ : Hid (∀ c, c < g.n → oo c = away c) := Lib.hid (fun c hc => hpass.out.unique HA.out hc)
          refine hK1 _ _ ?_
          clear hK1
          unfold LF at hfr
          generalize Lim.sl a = x at hfr
          subst hfr
          have L5 := L4.below hBW
          have m0 := L5.c0
          have HWW := Lib.hid (And.intro hBW (And.intro hrg hh4))
          clear hrg hh4 hBW hrun hlk q0 q1
          go_wp2_with fail
          obtain ⟨M5, hM5⟩ := L5.met
          have L6 := L5.below (Below.refl _ W).drew
          have HM6 := Lib.hid (hM5.below (Below.refl _ W).drew)
          have HB6 : Hid (Below w4.heap.size w4 W.drew) := Lib.hid HWW.out.1.drew
          have HR6 : Hid (W.drew.rangeAt ba 0 (lev oo)) := Lib.hid HWW.out.2.1
          have hC : (fun W => W.cell? ⟨w.heap.size, 0, none⟩ = some (.pointer (some ⟨b, 0, none⟩)) ∧ W.cell? ⟨w.heap.size + 1, 0, none⟩ = some (.int .i64 other)) W.drew := ⟨L6.c0, L6.c1⟩
          clear hM5 L5 m0
          generalize hW5 : W.drew = W5 at L6 HM6 HB6 HR6 hC
          refine Lim.regC' (fun W => W.cell? ⟨w.heap.size, 0, none⟩ = some (.pointer (some ⟨b, 0, none⟩)) ∧ W.cell? ⟨w.heap.size + 1, 0, none⟩ = some (.int .i64 other)) [] #[false, false, false, false, false, false] (by kernel_rfl) rfl ?_
          rw [hW5]
          clear hW5
          refine Lim.stepR 0 (fun _ => trivial) rfl (by kernel_rfl) (fun _ _ _ _ h => h) hC rfl ?_; apply Exists.intro; refine ⟨?_, ?_⟩
          · rintro w ⟨r1, r2⟩; go_simp; try with_reducible rfl
          simp only [Act.put, List.setIfInBounds_toArray, List.set_cons_succ, List.set_cons_zero]
          refine Lim.stepR 1 (fun _ => trivial) rfl (by kernel_rfl) (fun _ _ _ _ h => h) hC rfl ?_; apply Exists.intro; refine ⟨?_, ?_⟩
          · rintro w ⟨r1, r2⟩; go_simp; try with_reducible rfl
          simp only [Act.put, List.setIfInBounds_toArray, List.set_cons_succ, List.set_cons_zero]
          refine Lim.stepR 2 (fun _ => trivial) rfl (by kernel_rfl) (fun _ _ _ _ h => h) hC rfl ?_; apply Exists.intro; refine ⟨?_, ?_⟩
          · rintro w ⟨r1, r2⟩; go_simp; try with_reducible rfl
          simp only [Act.put, List.setIfInBounds_toArray, List.set_cons_succ, List.set_cons_zero]
          refine Lim.stepR 3 (fun _ => trivial) rfl (by kernel_rfl) (fun _ _ _ _ h => h) hC rfl ?_; apply Exists.intro; refine ⟨?_, ?_⟩
          · rintro w ⟨r1, r2⟩; go_simp; try with_reducible rfl
          simp only [Act.put, List.setIfInBounds_toArray, List.set_cons_succ, List.set_cons_zero]
          refine Lim.stepE 4 (fun _ => trivial) rfl (by kernel_rfl) rfl (fun K hK => ?_)   -- E call
          go_simp
          refine ⟨rfl, (callsIn_wide.2 (by_any b sea W5)).mono ?_⟩
          rintro e W6 ⟨rfl, hb6, hc6, hc7⟩
          have hC2 : (fun W => W.cell? ⟨w.heap.size, 0, none⟩ = some (.pointer (some ⟨b, 0, none⟩)) ∧ W.cell? ⟨w.heap.size + 1, 0, none⟩ = some (.int .i64 other)) W6 := ⟨cell_on hb6 hC.1, cell_on hb6 hC.2⟩
          have hlt7 := World.block_lt_of_cell? _ _ hc7
          dsimp only at hlt7
          have L7 := L6.below hb6
          have hs7 : w4.heap.size ≤ W5.heap.size := HB6.out.size
          have hL4 := L4.size
          have hLr := L.size
          have hL6 := L6.size
          have hbl := L4.lt
          have HP := Lib.hid (path_any (B := B) (w := W6) (b := b) (g := g) (M := M5) hg hB L7.wk (HM6.out.below hb6)
            (enters_of Try.func107 (by kernel_rfl) rfl) (enters_of Try.func105 (by kernel_rfl) rfl) (enters_of Try.func108 (by kernel_rfl) rfl)
            (asks_free (away := oo) (h := lo) (s := other) hg hB hC2.1 (cell_on hb6 (cell_on HB6.out HWW.out.2.2)) hC2.2 (range_below HR6.out hb6) (by omega) (by omega) (by omega) (by omega))
            (asks_by (s := sea) hg hB hc6 hc7 (by omega) (by omega)) asks_never)
          clear hC hc6 hc7 hb6 L6
          refine hK _ _ hC2 ?_
          simp only [Act.put, List.setIfInBounds_toArray, List.set_cons_succ, List.set_cons_zero]
          refine Lim.stepE 5 (fun _ => trivial) rfl (by kernel_rfl) rfl (fun K hK => ?_)   -- E call
          go_simp
          refine ⟨rfl, (callsIn_wide.2 HP.out).mono ?_⟩
          rintro e W7 ⟨hgr, hwk, v', M', rfl, hmet, hcase⟩
          have L8 := L7.worked hgr hwk hmet
          have HM' : Hid (∀ c, M' c = true ↔ Re g (fun c => land g c ∧ freeB g away ((g.hs.getD k (0, 0)).1) other c = true) (fun c => atB g c sea = true) c) := Lib.hid (by
            rcases hcase with ⟨-, -, h3⟩ | ⟨LL, h1, -⟩
            · intro c
              rw [h3 c, ← HLO.out.1]
              exact ⟨fun h => h.mono (fun c hc => ⟨hc.1, by rw [← freeB_congr hg hEQ.out hc.1.1]; exact hc.2⟩) (fun _ _ h => h), fun h => h.mono (fun c hc => ⟨hc.1, by rw [freeB_congr hg hEQ.out hc.1.1]; exact hc.2⟩) (fun _ _ h => h)⟩
            · obtain ⟨l, b, -, h2⟩ := h1.last
              cases h2)
          have hrng := range_of_met hmet
          have HMET := Lib.hid hmet
          clear hcase hgr hwk hmet HP hC2 L7
          refine hK _ _ ⟨L8.c0, L8.c1⟩ ?_
          simp only [Act.put, List.setIfInBounds_toArray, List.set_cons_succ, List.set_cons_zero]
          refine Lim.stepD (by kernel_rfl) ?_
          have m0 := L8.c0
          go_wp2_with (first
            | (refine wpList_load_mid rfl 141 _ rfl b 3 rfl (bls M') _ hrng Try.underlying141 rfl sizeBools ?_))
          have HPP := Lib.hid (And.intro hP.out HM'.out)
          clear hrng m0
          go_loopw [51] (fun i wr => ∃ j : Nat, j ≤ 100 ∧ i = .int .i64 j ∧ LowMem B w b g other (k + 1) (fun h => if h = lo then true else T h) (fun c => o c || (decide (c < j) && M' c)) wr) (fun i _ => 100 - (intOf i).toNat)
          case atStart => exact ⟨0, Nat.zero_le _, rfl, by simpa using L8⟩
          case round =>
            clear L8
            obtain ⟨j, hj, rfl, L9⟩ := hrel
            by_cases hjl : j < 100
            · have ix := run_index_bls M' hjl wr
              obtain ⟨p1, p2⟩ := L9.o j hjl
              have hoj : (o j || (decide (j < j) && M' j)) = o j := by simp
              rw [hoj] at p1
              clear hoj
              obtain ⟨dj, hdj⟩ : ∃ dj, dj = o j := ⟨_, rfl⟩
              obtain ⟨mj, hmj⟩ : ∃ mj, mj = M' j := ⟨_, rfl⟩
              rw [← hdj] at p1
              rw [← hmj] at ix
              have HDJ := Lib.hid (And.intro hdj hmj)
              have hj1 : (j : Int) < 100 := by omega
              clear hdj hmj
              have hnew : ∀ d : Bool, d = (dj || mj) → (fun c => if c = j then d else (o c || (decide (c < j) && M' c))) = fun c => o c || (decide (c < j + 1) && M' c) := by
                rintro d rfl
                funext c
                by_cases e : c = j
                · subst e; simp [HDJ.out.1, HDJ.out.2]
                · rw [if_neg e]
                  by_cases h : c < j
                  · simp [h, show c < j + 1 from by omega]
                  · simp [h, show ¬ c < j + 1 from by omega]
              have HN := Lib.hid hnew
              clear hnew
              cases dj with
              | true =>
                have L10 := L9.say hjl true
                rw [HN.out true rfl] at L10
                go_wp2
                go_roundw
                case rel => exact ⟨j + 1, by omega, by go_num, L10⟩
                case measure => simp [intOf]; omega
              | false =>
                have L10 := L9.say hjl mj
                rw [HN.out mj (by simp)] at L10
                go_wp2
                go_roundw
                case rel => exact ⟨j + 1, by omega, by go_num, L10⟩
                case measure => simp [intOf]; omega
            · obtain rfl : j = 100 := by omega
              go_wp2
              go_roundw
              case rel => exact ⟨k + 1, _, _, by omega, by go_num, L9, Lib.hid (HPP.out.1.more HLO.out.1 HPP.out.2)⟩
              case measure => simp [intOf]; omega
        have HR := Lib.hid rest
        clear rest hK1
        have CH : ∀ W, Below w4.heap.size w4 W → Calls Try.prog 63 #[.pointer (some ⟨b, 0, none⟩), .agg #[.func (.func 98) #[] #[]]] W fun e w' => ∃ v, e = .returned v ∧ RS w'.heap.size w' v (g.hs.map (·.2)).length (ints (g.hs.map (·.2))) ∧ Below W.heap.size W w' := by
          intro W hW
          have hs := hW.size
          refine (heights_high hg (Nat.le_refl _) ((L4.wk.below hW (by have := L4.lt; have := L4.size; omega)).at (by have := L4.lt; have := L4.size; omega) (by have := L4.lt; have := L4.size; omega))).mono ?_
          rintro e w' ⟨v, rfl, ho, hb⟩
          exact ⟨v, rfl, RS.of_owns' ho (by simp), hb⟩
        have CP : ∀ (v : Value) W, Below w4.heap.size w4 W → RS W.heap.size W v (g.hs.map (·.2)).length (ints (g.hs.map (·.2))) → Calls Try.prog 65 #[.pointer (some ⟨b, 0, none⟩), v, .int .i64 other] W fun e w' => ∃ oo, e = .returned (.agg (lev oo).toArray) ∧ IsPass g (highT g) other oo ∧ Below W.heap.size W w' := by
          intro v W hW hv
          have hs := hW.size
          exact passes_any (B := W.heap.size) hg (Nat.le_refl _) ((L4.wk.below hW (by have := L4.lt; have := L4.size; omega)).at (by have := L4.lt; have := L4.size; omega) (by have := L4.lt; have := L4.size; omega)) (by simpa using HHN.out) (high_range HBS.out) hv
        have hC : (fun W => W.cell? ⟨w.heap.size, 0, none⟩ = some (.pointer (some ⟨b, 0, none⟩)) ∧ W.cell? ⟨w.heap.size + 1, 0, none⟩ = some (.int .i64 other)) w4.drew := ⟨L4.c0, L4.c1⟩
        have HB4 : Hid (Below w4.heap.size w4 w4.drew) := Lib.hid (Below.refl _ w4).drew
        clear q0 q1 hrun hlk m0 m1
        refine Lim.regC' (fun W => W.cell? ⟨w.heap.size, 0, none⟩ = some (.pointer (some ⟨b, 0, none⟩)) ∧ W.cell? ⟨w.heap.size + 1, 0, none⟩ = some (.int .i64 other)) [] #[false, false, false, false, false, false, false, false] (by kernel_rfl) rfl ?_
        refine Lim.stepR 0 (fun _ => trivial) rfl (by kernel_rfl) (fun _ _ _ _ h => h) hC rfl ?_; apply Exists.intro; refine ⟨?_, ?_⟩
        · rintro w ⟨r1, r2⟩; go_simp; try with_reducible rfl
        simp only [Act.put, List.setIfInBounds_toArray, List.set_cons_succ, List.set_cons_zero]
        refine Lim.stepR 1 (fun _ => trivial) rfl (by kernel_rfl) (fun _ _ _ _ h => h) hC rfl ?_; apply Exists.intro; refine ⟨?_, ?_⟩
        · rintro w ⟨r1, r2⟩; go_simp; try with_reducible rfl
        simp only [Act.put, List.setIfInBounds_toArray, List.set_cons_succ, List.set_cons_zero]
        refine Lim.stepR 4 (fun _ => trivial) rfl (by kernel_rfl) (fun _ _ _ _ h => h) hC rfl ?_; apply Exists.intro; refine ⟨?_, ?_⟩
        · rintro w ⟨r1, r2⟩; go_simp; try with_reducible rfl
        simp only [Act.put, List.setIfInBounds_toArray, List.set_cons_succ, List.set_cons_zero]
        clear hC
        generalize w4.drew = w5 at HB4 ⊢
        refine Lim.step2 2 6 (fun _ => trivial) rfl rfl (by kernel_rfl) rfl rfl (fun K hK => ?_) (fun K hK => ?_)
        · go_simp
          refine ⟨rfl, (callsIn_wide.2 (high_any _)).mono ?_⟩
          rintro e wa2 ⟨rfl, hbx⟩
          have HBwa2 := Lib.hid (HB4.out.trans (hbx.mono HB4.out.size))
          clear hbx
          refine hK _ _ ⟨cell_on HBwa2.out L4.c0, cell_on HBwa2.out L4.c1⟩ ?_
          simp only [Act.put, List.setIfInBounds_toArray, List.set_cons_succ, List.set_cons_zero]
          refine Lim.step2 3 6 (fun _ => trivial) rfl rfl (by kernel_rfl) rfl rfl (fun K hK => ?_) (fun K hK => ?_)
          · go_simp
            refine ⟨rfl, (callsIn_wide.2 (CH wa2 HBwa2.out)).mono ?_⟩
            rintro e wb3 ⟨vwb3, rfl, Vwb3, hbx⟩
            have HBwb3 := Lib.hid (HBwa2.out.trans (hbx.mono HBwa2.out.size))
            clear hbx
            refine hK _ _ ⟨cell_on HBwb3.out L4.c0, cell_on HBwb3.out L4.c1⟩ ?_
            simp only [Act.put, List.setIfInBounds_toArray, List.set_cons_succ, List.set_cons_zero]
            refine Lim.step2 5 6 (fun _ => trivial) rfl rfl (by kernel_rfl) rfl rfl (fun K hK => ?_) (fun K hK => ?_)
            · go_simp
              refine ⟨rfl, (callsIn_wide.2 (CP _ wb3 HBwb3.out Vwb3)).mono ?_⟩
              rintro e wc5 ⟨owc5, rfl, Pwc5, hbx⟩
              have HBwc5 := Lib.hid (HBwb3.out.trans (hbx.mono HBwb3.out.size))
              have Vwc5 := (Vwb3.below hbx).mono hbx.size
              clear hbx
              refine hK _ _ ⟨cell_on HBwc5.out L4.c0, cell_on HBwc5.out L4.c1⟩ ?_
              simp only [Act.put, List.setIfInBounds_toArray, List.set_cons_succ, List.set_cons_zero]
              refine Lim.stepE 6 (fun _ => trivial) rfl (by kernel_rfl) rfl (fun K hK => ?_)
              go_simp
              have Twd6 : (wc5.alloc (.cells Try.zeroCells113 113)).there wc5.heap.size 0 100 := there_new _ _ _ 100 (by rw [zeroLevel_size]; exact Nat.le_refl _)
              have HBwd6 := Lib.hid (HBwc5.out.alloc (by have := HBwc5.out.size; omega) (.cells Try.zeroCells113 113))
              have Swd6 := HBwc5.out.size
              have Vwd6 := (Vwc5.below ((Below.refl _ wc5).alloc (Nat.le_refl _) (.cells Try.zeroCells113 113))).mono (B' := (wc5.alloc (.cells Try.zeroCells113 113)).heap.size) (by rw [World.size_alloc]; omega)
              refine hK _ _ ⟨cell_al _ (cell_on HBwc5.out L4.c0), cell_al _ (cell_on HBwc5.out L4.c1)⟩ ?_
              generalize wc5.alloc (.cells Try.zeroCells113 113) = wd6 at Twd6 HBwd6 Vwd6 ⊢
              simp only [Act.put, List.setIfInBounds_toArray, List.set_cons_succ, List.set_cons_zero]
              refine Lim.stepE 7 (fun _ => trivial) rfl (by kernel_rfl) rfl (fun K hK => ?_)
              have e7 := run_storeLev (P := Try.prog) wd6 wc5.heap.size owc5 Twd6
              go_simp
              have B7 : Below w4.heap.size w4 (wd6.setCells wc5.heap.size 0 (lev owc5)) := below_setCells Swd6 _ _ _ HBwd6.out
              refine hK _ _ ⟨cell_on B7 L4.c0, cell_on B7 L4.c1⟩ ?_
              refine Lim.stepD (by kernel_rfl) ?_
              exact HR.out wc5.heap.size owc5 _ _ rfl B7 Swd6 (World.rangeAt_setCells_same _ _ _ _ (by rw [lev_length]; exact Twd6)) (Lib.hid Pwc5)
            · go_simp
              have Twc6 : (wb3.alloc (.cells Try.zeroCells113 113)).there wb3.heap.size 0 100 := there_new _ _ _ 100 (by rw [zeroLevel_size]; exact Nat.le_refl _)
              have HBwc6 := Lib.hid (HBwb3.out.alloc (by have := HBwb3.out.size; omega) (.cells Try.zeroCells113 113))
              have Swc6 := HBwb3.out.size
              have Vwc6 := (Vwb3.below ((Below.refl _ wb3).alloc (Nat.le_refl _) (.cells Try.zeroCells113 113))).mono (B' := (wb3.alloc (.cells Try.zeroCells113 113)).heap.size) (by rw [World.size_alloc]; omega)
              refine hK _ _ ⟨cell_al _ (cell_on HBwb3.out L4.c0), cell_al _ (cell_on HBwb3.out L4.c1)⟩ ?_
              generalize wb3.alloc (.cells Try.zeroCells113 113) = wc6 at Twc6 HBwc6 Vwc6 ⊢
              simp only [Act.put, List.setIfInBounds_toArray, List.set_cons_succ, List.set_cons_zero]
              refine Lim.stepE 5 (fun _ => trivial) rfl (by kernel_rfl) rfl (fun K hK => ?_)
              go_simp
              refine ⟨rfl, (callsIn_wide.2 (CP _ wc6 HBwc6.out Vwc6)).mono ?_⟩
              rintro e wd5 ⟨owd5, rfl, Pwd5, hbx⟩
              have HBwd5 := Lib.hid (HBwc6.out.trans (hbx.mono HBwc6.out.size))
              have Twd5 := there_below Twc6 hbx
              have Vwd5 := (Vwc6.below hbx).mono hbx.size
              clear hbx
              refine hK _ _ ⟨cell_on HBwd5.out L4.c0, cell_on HBwd5.out L4.c1⟩ ?_
              simp only [Act.put, List.setIfInBounds_toArray, List.set_cons_succ, List.set_cons_zero]
              refine Lim.stepE 7 (fun _ => trivial) rfl (by kernel_rfl) rfl (fun K hK => ?_)
              have e7 := run_storeLev (P := Try.prog) wd5 wb3.heap.size owd5 Twd5
              go_simp
              have B7 : Below w4.heap.size w4 (wd5.setCells wb3.heap.size 0 (lev owd5)) := below_setCells Swc6 _ _ _ HBwd5.out
              refine hK _ _ ⟨cell_on B7 L4.c0, cell_on B7 L4.c1⟩ ?_
              refine Lim.stepD (by kernel_rfl) ?_
              exact HR.out wb3.heap.size owd5 _ _ rfl B7 Swc6 (World.rangeAt_setCells_same _ _ _ _ (by rw [lev_length]; exact Twd5)) (Lib.hid Pwd5)
          · go_simp
            have Twb6 : (wa2.alloc (.cells Try.zeroCells113 113)).there wa2.heap.size 0 100 := there_new _ _ _ 100 (by rw [zeroLevel_size]; exact Nat.le_refl _)
            have HBwb6 := Lib.hid (HBwa2.out.alloc (by have := HBwa2.out.size; omega) (.cells Try.zeroCells113 113))
            have Swb6 := HBwa2.out.size
            refine hK _ _ ⟨cell_al _ (cell_on HBwa2.out L4.c0), cell_al _ (cell_on HBwa2.out L4.c1)⟩ ?_
            generalize wa2.alloc (.cells Try.zeroCells113 113) = wb6 at Twb6 HBwb6 ⊢
            simp only [Act.put, List.setIfInBounds_toArray, List.set_cons_succ, List.set_cons_zero]
            refine Lim.stepE 3 (fun _ => trivial) rfl (by kernel_rfl) rfl (fun K hK => ?_)
            go_simp
            refine ⟨rfl, (callsIn_wide.2 (CH wb6 HBwb6.out)).mono ?_⟩
            rintro e wc3 ⟨vwc3, rfl, Vwc3, hbx⟩
            have HBwc3 := Lib.hid (HBwb6.out.trans (hbx.mono HBwb6.out.size))
            have Twc3 := there_below Twb6 hbx
            clear hbx
            refine hK _ _ ⟨cell_on HBwc3.out L4.c0, cell_on HBwc3.out L4.c1⟩ ?_
            simp only [Act.put, List.setIfInBounds_toArray, List.set_cons_succ, List.set_cons_zero]
            refine Lim.stepE 5 (fun _ => trivial) rfl (by kernel_rfl) rfl (fun K hK => ?_)
            go_simp
            refine ⟨rfl, (callsIn_wide.2 (CP _ wc3 HBwc3.out Vwc3)).mono ?_⟩
            rintro e wd5 ⟨owd5, rfl, Pwd5, hbx⟩
            have HBwd5 := Lib.hid (HBwc3.out.trans (hbx.mono HBwc3.out.size))
            have Twd5 := there_below Twc3 hbx
            have Vwd5 := (Vwc3.below hbx).mono hbx.size
            clear hbx
            refine hK _ _ ⟨cell_on HBwd5.out L4.c0, cell_on HBwd5.out L4.c1⟩ ?_
            simp only [Act.put, List.setIfInBounds_toArray, List.set_cons_succ, List.set_cons_zero]
            refine Lim.stepE 7 (fun _ => trivial) rfl (by kernel_rfl) rfl (fun K hK => ?_)
            have e7 := run_storeLev (P := Try.prog) wd5 wa2.heap.size owd5 Twd5
            go_simp
            have B7 : Below w4.heap.size w4 (wd5.setCells wa2.heap.size 0 (lev owd5)) := below_setCells Swb6 _ _ _ HBwd5.out
            refine hK _ _ ⟨cell_on B7 L4.c0, cell_on B7 L4.c1⟩ ?_
            refine Lim.stepD (by kernel_rfl) ?_
            exact HR.out wa2.heap.size owd5 _ _ rfl B7 Swb6 (World.rangeAt_setCells_same _ _ _ _ (by rw [lev_length]; exact Twd5)) (Lib.hid Pwd5)
        · go_simp
          have Twa6 : (w5.alloc (.cells Try.zeroCells113 113)).there w5.heap.size 0 100 := there_new _ _ _ 100 (by rw [zeroLevel_size]; exact Nat.le_refl _)
          have HBwa6 := Lib.hid (HB4.out.alloc (by have := HB4.out.size; omega) (.cells Try.zeroCells113 113))
          have Swa6 := HB4.out.size
          refine hK _ _ ⟨cell_al _ (cell_on HB4.out L4.c0), cell_al _ (cell_on HB4.out L4.c1)⟩ ?_
          generalize w5.alloc (.cells Try.zeroCells113 113) = wa6 at Twa6 HBwa6 ⊢
          simp only [Act.put, List.setIfInBounds_toArray, List.set_cons_succ, List.set_cons_zero]
          refine Lim.stepE 2 (fun _ => trivial) rfl (by kernel_rfl) rfl (fun K hK => ?_)
          go_simp
          refine ⟨rfl, (callsIn_wide.2 (high_any _)).mono ?_⟩
          rintro e wb2 ⟨rfl, hbx⟩
          have HBwb2 := Lib.hid (HBwa6.out.trans (hbx.mono HBwa6.out.size))
          have Twb2 := there_below Twa6 hbx
          clear hbx
          refine hK _ _ ⟨cell_on HBwb2.out L4.c0, cell_on HBwb2.out L4.c1⟩ ?_
          simp only [Act.put, List.setIfInBounds_toArray, List.set_cons_succ, List.set_cons_zero]
          refine Lim.stepE 3 (fun _ => trivial) rfl (by kernel_rfl) rfl (fun K hK => ?_)
          go_simp
          refine ⟨rfl, (callsIn_wide.2 (CH wb2 HBwb2.out)).mono ?_⟩
          rintro e wc3 ⟨vwc3, rfl, Vwc3, hbx⟩
          have HBwc3 := Lib.hid (HBwb2.out.trans (hbx.mono HBwb2.out.size))
          have Twc3 := there_below Twb2 hbx
          clear hbx
          refine hK _ _ ⟨cell_on HBwc3.out L4.c0, cell_on HBwc3.out L4.c1⟩ ?_
          simp only [Act.put, List.setIfInBounds_toArray, List.set_cons_succ, List.set_cons_zero]
          refine Lim.stepE 5 (fun _ => trivial) rfl (by kernel_rfl) rfl (fun K hK => ?_)
          go_simp
          refine ⟨rfl, (callsIn_wide.2 (CP _ wc3 HBwc3.out Vwc3)).mono ?_⟩
          rintro e wd5 ⟨owd5, rfl, Pwd5, hbx⟩
          have HBwd5 := Lib.hid (HBwc3.out.trans (hbx.mono HBwc3.out.size))
          have Twd5 := there_below Twc3 hbx
          have Vwd5 := (Vwc3.below hbx).mono hbx.size
          clear hbx
          refine hK _ _ ⟨cell_on HBwd5.out L4.c0, cell_on HBwd5.out L4.c1⟩ ?_
          simp only [Act.put, List.setIfInBounds_toArray, List.set_cons_succ, List.set_cons_zero]
          refine Lim.stepE 7 (fun _ => trivial) rfl (by kernel_rfl) rfl (fun K hK => ?_)
          have e7 := run_storeLev (P := Try.prog) wd5 w5.heap.size owd5 Twd5
          go_simp
          have B7 : Below w4.heap.size w4 (wd5.setCells w5.heap.size 0 (lev owd5)) := below_setCells Swa6 _ _ _ HBwd5.out
          refine hK _ _ ⟨cell_on B7 L4.c0, cell_on B7 L4.c1⟩ ?_
          refine Lim.stepD (by kernel_rfl) ?_
          exact HR.out w5.heap.size owd5 _ _ rfl B7 Swa6 (World.rangeAt_setCells_same _ _ _ _ (by rw [lev_length]; exact Twd5)) (Lib.hid Pwd5)
    · obtain rfl : k = g.hs.length := by omega
      have hrng := L.range
      have hthr := L.there
      go_wp2_with (first
        | (refine wpList_load_mid rfl 141 _ rfl (w.heap.size + 1 + 1 + 1) 0 rfl (bls o) _ hrng Try.underlying141 rfl sizeBools ?_)
        | (refine wpList_store_mid rfl 141 _ _ rfl (w.heap.size + 1 + 1) 0 _ rfl rfl (by rw [bls_size]; exact hthr) (by rw [bls_size]; exact sizeBools) (bls_one o) ?_))
      have hgr := grown_cells (w.heap.size + 1 + 1) (bls o) 0 wr
      have hlt := L.lt
      have hsz := L.size
      have hge := L.ge
      obtain ⟨M', hM'⟩ := L.met
      refine bodyPost_ret (v := .agg (bls o).toArray) (results_mid rfl _ _ (w.heap.size + 1 + 1) 0 (bls o) _ rfl (World.rangeAt_setCells_same _ _ _ _ (by rw [bls_length]; exact hthr)) Try.underlying141 rfl sizeBools) rfl
        ⟨o, rfl, ⟨away, HA.out, hP.out.2⟩, grown_but L.gb hgr (fun r e => by cases e; exact .inr (by omega)), L.wk.grown hgr (by simp; omega) (by omega) (fun r e => by cases e; omega), M', hM'.grown hgr (by simp; omega)⟩
end Go.Proofs.Ytdgibmgifgdpbaa
