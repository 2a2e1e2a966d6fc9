/-
  Parts of the proof, in the order in which they build: Heights.
-/
import Derived.Maps.AppendAt
import Derived.Test.YtohjinbgbfggcaaR4
set_option linter.unusedVariables false
set_option linter.unusedSimpArgs false
namespace Go.Proofs.Ytohjinbgbfggcaa.Rg
open Go.RowKit Go.Shelf
open Lim

theorem Try.infoInt : (Try.prog.info? 3).map (fun i => (i.zero, i.size, i.bytes)) = some (some (.int .i64 0), 1, 8) := by kernel_rfl

set_option maxHeartbeats 1000000 in
theorem heights_low {B b : Nat} {g : Gd} {w : World} (hg : g.Ok) (hB : B ≤ w.heap.size) (hw : WorkAt B w b g) :
    Calls Try.prog 41 #[.pointer (some ⟨b, 0, none⟩), .agg #[.func (.func 72) #[] #[]]] w fun e w' =>
      ∃ v, e = .returned v ∧ w'.ownsRow w.heap.size 3 1 v g.hs.length (ints (g.hs.map (·.1))) ∧ Below w.heap.size w w' := by
  obtain ⟨hlt, hc0, ⟨hv, hc1, ha, hcap, rfl, hha⟩, ⟨sv, hc2, sa, scap, rfl, hsa⟩⟩ := hw
  have hbw : b < w.heap.size := by omega
  have hn : g.hs.length ≤ 100 := by rw [hg.hn]; exact hg.n1
  obtain ⟨i0, hi, hz0, hz1, hz2⟩ := info_parts Try.infoInt
  have HI := Lib.hid (And.intro hi (And.intro hz0 (And.intro hz1 hz2)))
  clear hi hz0 hz1 hz2
  go_enter Try.func41, Try.ntmps41
  go_wp2
  generalize hW : World.alloc _ _ = W0
  have hB0 : Below w.heap.size w W0 := by rw [← hW]; exact (Below.refl _ w).alloc (Nat.le_refl _) _
  have hsz : w.heap.size + 1 = W0.heap.size := by rw [← hW]; simp
  have f0 : W0.cell? ⟨w.heap.size, 0, none⟩ = some (.func (.func 72) #[] #[]) := by rw [← hW]; simp [go_sem]
  clear hW
  go_loopw [5, 14] (fun v i wr => ∃ k : Nat, k ≤ g.hs.length ∧ i = .int .i64 k ∧ wr.ownsRow (w.heap.size + 1) 3 1 v k (ints ((g.hs.take k).map (·.1))) ∧ wr.cell? ⟨w.heap.size, 0, none⟩ = some (.func (.func 72) #[] #[]) ∧ Below w.heap.size w wr)
    (fun _ i _ => g.hs.length - (intOf i).toNat)
  case atStart => exact ⟨0, Nat.zero_le _, rfl, World.ownsRow_nil _ _ _ _, f0, hB0⟩
  case round =>
    obtain ⟨k, hk, rfl, hown, fr, hbr⟩ := hrel
    by_cases hlt : k < g.hs.length
    · obtain ⟨hb, hoff, rfl, hhb, hcell⟩ := hha (spans_ne (by omega))
      obtain ⟨lo, hlo⟩ : ∃ lo, lo = g.hs[k].1 := ⟨_, rfl⟩
      obtain ⟨up, hup⟩ : ∃ up, up = g.hs[k].2 := ⟨_, rfl⟩
      have q0 : wr.cell? ⟨hb, hoff + k * 2, none⟩ = some (.int .i64 lo) := by rw [hlo]; exact cell_below hbr (hcell _ _ (spans_lo _ k hlt)) (by simp; omega)
      have q1 : wr.cell? ⟨hb, hoff + k * 2 + 1, none⟩ = some (.int .i64 up) := by rw [hup]; exact cell_below hbr (hcell _ _ (spans_hi _ k hlt)) (by simp; omega)
      have HS : Hid (ints ((g.hs.take (k + 1)).map (·.1)) = ints ((g.hs.take k).map (·.1)) ++ [.int .i64 lo]) := by rw [hlo]; exact ints_map_snoc _ _ k hlt
      clear hlo hup
      have hsz2 : w.heap.size < wr.heap.size := World.block_lt_of_cell? _ _ fr
      clear hcell hha hsa hc0 hc1 hc2 f0 hB0 hsz
      go_wp2_with fail
      refine (low1_any _ _ _).mono ?_
      rintro e w2 ⟨rfl, hb2⟩
      have hown2 := owns_below (hown.alloc _) hb2
      have fr2 := cell_on hb2 (cell_al _ fr)
      have hB2 : Below w.heap.size w w2 := (hbr.alloc hbr.size _).trans (hb2.mono (by have := hbr.size; simp; omega))
      have hs2 := hB2.size
      clear hown hb2 fr hbr q0 q1 hsz2
      go_wp2_with (at_builtin; refine wpList_append_own _ rfl _ _ 25 rfl (w.heap.size + 1) 3 i0 (.int .i64 0) 1 8 Try.underlying25 HI.out.1 HI.out.2.1 HI.out.2.2.1 HI.out.2.2.2 rfl (by decide) _ _ _ rfl (hown2.alloc _) ⟨w2.heap.size, 0, none⟩ 1 1 [.int .i64 lo] rfl rfl (cell_one_new _ _ _) (by simp [Value.oneCell']) (by unfold maxLen; omega) (by omega) (by simp; omega) ?_; intro v' w3 hown3 hgrow _)
      have hB3 : Below w.heap.size w w3 := (hB2.alloc hs2 _).grown hgrow (by simp; omega) (fun j e => by have := hown2.lt j e; omega)
      have fr3 := hgrow.cell (cell_al _ fr2) (fun e => by have := hown2.lt _ e.symm; simp at this; omega)
      clear hown2 hgrow fr2 hB2 hs2
      go_wp2
      go_roundw
      case rel => exact ⟨k + 1, by omega, by go_num, by rw [HS.out]; exact hown3, fr3, hB3⟩
      case measure => simp [intOf]; omega
    · obtain rfl : k = g.hs.length := by omega
      go_wp2
      go_ret
      refine ⟨_, rfl, ?_, hbr⟩
      simpa using owns_mono hown (Nat.le_succ _)

set_option maxHeartbeats 1000000 in
theorem heights_high {B b : Nat} {g : Gd} {w : World} (hg : g.Ok) (hB : B ≤ w.heap.size) (hw : WorkAt B w b g) :
    Calls Try.prog 41 #[.pointer (some ⟨b, 0, none⟩), .agg #[.func (.func 73) #[] #[]]] w fun e w' =>
      ∃ v, e = .returned v ∧ w'.ownsRow w.heap.size 3 1 v g.hs.length (ints (g.hs.map (·.2))) ∧ Below w.heap.size w w' := by
  obtain ⟨hlt, hc0, ⟨hv, hc1, ha, hcap, rfl, hha⟩, ⟨sv, hc2, sa, scap, rfl, hsa⟩⟩ := hw
  have hbw : b < w.heap.size := by omega
  have hn : g.hs.length ≤ 100 := by rw [hg.hn]; exact hg.n1
  obtain ⟨i0, hi, hz0, hz1, hz2⟩ := info_parts Try.infoInt
  have HI := Lib.hid (And.intro hi (And.intro hz0 (And.intro hz1 hz2)))
  clear hi hz0 hz1 hz2
  go_enter Try.func41, Try.ntmps41
  go_wp2
  generalize hW : World.alloc _ _ = W0
  have hB0 : Below w.heap.size w W0 := by rw [← hW]; exact (Below.refl _ w).alloc (Nat.le_refl _) _
  have hsz : w.heap.size + 1 = W0.heap.size := by rw [← hW]; simp
  have f0 : W0.cell? ⟨w.heap.size, 0, none⟩ = some (.func (.func 73) #[] #[]) := by rw [← hW]; simp [go_sem]
  clear hW
  go_loopw [5, 14] (fun v i wr => ∃ k : Nat, k ≤ g.hs.length ∧ i = .int .i64 k ∧ wr.ownsRow (w.heap.size + 1) 3 1 v k (ints ((g.hs.take k).map (·.2))) ∧ wr.cell? ⟨w.heap.size, 0, none⟩ = some (.func (.func 73) #[] #[]) ∧ Below w.heap.size w wr)
    (fun _ i _ => g.hs.length - (intOf i).toNat)
  case atStart => exact ⟨0, Nat.zero_le _, rfl, World.ownsRow_nil _ _ _ _, f0, hB0⟩
  case round =>
    obtain ⟨k, hk, rfl, hown, fr, hbr⟩ := hrel
    by_cases hlt : k < g.hs.length
    · obtain ⟨hb, hoff, rfl, hhb, hcell⟩ := hha (spans_ne (by omega))
      obtain ⟨lo, hlo⟩ : ∃ lo, lo = g.hs[k].1 := ⟨_, rfl⟩
      obtain ⟨up, hup⟩ : ∃ up, up = g.hs[k].2 := ⟨_, rfl⟩
      have q0 : wr.cell? ⟨hb, hoff + k * 2, none⟩ = some (.int .i64 lo) := by rw [hlo]; exact cell_below hbr (hcell _ _ (spans_lo _ k hlt)) (by simp; omega)
      have q1 : wr.cell? ⟨hb, hoff + k * 2 + 1, none⟩ = some (.int .i64 up) := by rw [hup]; exact cell_below hbr (hcell _ _ (spans_hi _ k hlt)) (by simp; omega)
      have HS : Hid (ints ((g.hs.take (k + 1)).map (·.2)) = ints ((g.hs.take k).map (·.2)) ++ [.int .i64 up]) := by rw [hup]; exact ints_map_snoc _ _ k hlt
      clear hlo hup
      have hsz2 : w.heap.size < wr.heap.size := World.block_lt_of_cell? _ _ fr
      clear hcell hha hsa hc0 hc1 hc2 f0 hB0 hsz
      go_wp2_with fail
      refine (high1_any _ _ _).mono ?_
      rintro e w2 ⟨rfl, hb2⟩
      have hown2 := owns_below (hown.alloc _) hb2
      have fr2 := cell_on hb2 (cell_al _ fr)
      have hB2 : Below w.heap.size w w2 := (hbr.alloc hbr.size _).trans (hb2.mono (by have := hbr.size; simp; omega))
      have hs2 := hB2.size
      clear hown hb2 fr hbr q0 q1 hsz2
      go_wp2_with (at_builtin; refine wpList_append_own _ rfl _ _ 25 rfl (w.heap.size + 1) 3 i0 (.int .i64 0) 1 8 Try.underlying25 HI.out.1 HI.out.2.1 HI.out.2.2.1 HI.out.2.2.2 rfl (by decide) _ _ _ rfl (hown2.alloc _) ⟨w2.heap.size, 0, none⟩ 1 1 [.int .i64 up] rfl rfl (cell_one_new _ _ _) (by simp [Value.oneCell']) (by unfold maxLen; omega) (by omega) (by simp; omega) ?_; intro v' w3 hown3 hgrow _)
      have hB3 : Below w.heap.size w w3 := (hB2.alloc hs2 _).grown hgrow (by simp; omega) (fun j e => by have := hown2.lt j e; omega)
      have fr3 := hgrow.cell (cell_al _ fr2) (fun e => by have := hown2.lt _ e.symm; simp at this; omega)
      clear hown2 hgrow fr2 hB2 hs2
      go_wp2
      go_roundw
      case rel => exact ⟨k + 1, by omega, by go_num, by rw [HS.out]; exact hown3, fr3, hB3⟩
      case measure => simp [intOf]; omega
    · obtain rfl : k = g.hs.length := by omega
      go_wp2
      go_ret
      refine ⟨_, rfl, ?_, hbr⟩
      simpa using owns_mono hown (Nat.le_succ _)

end Go.Proofs.Ytohjinbgbfggcaa.Rg
