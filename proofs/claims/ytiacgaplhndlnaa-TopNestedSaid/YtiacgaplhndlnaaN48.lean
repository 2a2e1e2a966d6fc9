/-
  Parts of the proof, in the order in which they build: CoP.
-/
import Derived.BigQuiet
import Derived.Test.YtiacgaplhndlnaaN42
import Derived.Test.YtiacgaplhndlnaaN46
import Derived.Test.YtiacgaplhndlnaaN47
set_option linter.unusedVariables false
set_option linter.unusedSimpArgs false
namespace Go.Proofs.Ytiacgaplhndlnaa
open Go Go.RowKit Go.Shelf
open Lim
attribute [local go_sem] Oper.semAt_some

set_option maxRecDepth 20000 in
set_option maxHeartbeats 1000000 in
/-- two equal lists -/
theorem sequal_any {B : Nat} {v u : Value} {l : List Int} {w : World} (hl : l.length ≤ 100000) (hv : RS B w v l.length (ints l)) (hu : RS B w u l.length (ints l)) :
    Calls Try.prog 14 #[v, u] w fun e w' => e = .returned (.bool true) ∧ Below w.heap.size w w' := by
  have HV := Lib.hid (And.intro hv hu)
  obtain ⟨va, vc, rfl, -⟩ := hv
  obtain ⟨ua, uc, rfl, -⟩ := hu
  go_enter Try.func14, Try.ntmps14
  go_wp2_with fail
  go_loopw [13] (fun iv W => ∃ k : Nat, k ≤ l.length ∧ iv = .int .i64 k ∧ Hid (Below w.heap.size w W)) (fun iv _ => l.length - (intOf iv).toNat)
  case atStart => exact ⟨0, Nat.zero_le _, rfl, Lib.hid (Below.refl _ _)⟩
  case round =>
    obtain ⟨k, hk, rfl, hI⟩ := hrel
    by_cases hlt : k < l.length
    · have hlt' : (k : Int) < l.length := by omega
      obtain ⟨g, o, rfl, c1⟩ := cell_of_RS (p := k) HV.out.1 hlt
      obtain ⟨g2, o2, rfl, c2⟩ := cell_of_RS (p := k) HV.out.2 hlt
      obtain ⟨y, hy⟩ : ∃ y, y = l.getD k 0 := ⟨_, rfl⟩
      rw [← hy] at c1 c2
      replace c1 := hI.out.on c1
      replace c2 := hI.out.on c2
      have t1 : (y != y) = false := by simp
      have hk64 : (k : Int) ≤ 100000 := by omega
      clear hy
      go_wp2_with fail
      go_quiet (fail)
      go_wp2_with fail
      go_roundw
      case rel => exact ⟨k + 1, by omega, by go_num, Lib.hid (below_drewN hI.out _)⟩
      case measure => simp [intOf]; omega
    · have hlt' : ¬ (k : Int) < l.length := by omega
      go_wp2_with fail
      go_ret
      exact ⟨rfl, hI.out⟩
set_option maxRecDepth 20000 in
set_option maxHeartbeats 1000000 in
theorem awake13_any (w : World) : Calls Try.prog 11 #[] w fun e w' => e = .returned (.bool true) ∧ Below w.heap.size w w' := by
  have hb0 := (Below.refl _ w).alloc (Nat.le_refl _) (.cells #[.int .i64 0, .int .i64 1] 38)
  have HB0 := Lib.hid hb0
  have hg := heap_alloc_new w (.cells #[.int .i64 0, .int .i64 1] 38)
  have hrs : RS (w.alloc (.cells #[.int .i64 0, .int .i64 1] 38)).heap.size (w.alloc (.cells #[.int .i64 0, .int .i64 1] 38)) (.slice (some ⟨w.heap.size, 0, none⟩) 1 1) [((0 : Nat), (1 : Nat))].length (spans (stk [(0, 1)])) :=
    ⟨_, _, rfl, fun _ => ⟨w.heap.size, 0, rfl, by simp, fun j u hj => by
      have hc : ∀ k, (w.alloc (.cells #[.int .i64 0, .int .i64 1] 38)).cell? ⟨w.heap.size, k, none⟩ = (#[.int .i64 0, .int .i64 1] : Array Value)[k]? := fun k => by simp only [World.cell?, hg]; rfl
      rw [Nat.zero_add, hc]
      simpa [spans, stk] using hj⟩⟩
  have hok : CaseOk 2 [(0, 1)] := ⟨by omega, by simp, fun s hs => by rw [List.mem_singleton.1 hs]; decide, List.pairwise_singleton _ _⟩
  have CA := Lib.hid (Award_any hok (Nat.le_refl _) hrs)
  clear hb0 hg hrs hok
  go_enter Try.func11, Try.ntmps11
  generalize hW : w.alloc (.cells #[.int .i64 0, .int .i64 1] 38) = w1 at HB0 CA
  go_wp2_with fail
  refine CA.out.mono ?_
  rintro e w2 ⟨v, F, R, rfl, hc, hst, ho, hb⟩
  have e12 : F.take 2 = [1, 2] := award_is (fun s hs => by rw [List.mem_singleton.1 hs]; decide) (by omega) hc hst rfl two_sound two_stuck
  rw [e12] at ho
  have HB2 := Lib.hid (HB0.out.trans (hb.mono HB0.out.size))
  have HO := Lib.hid (RS.of_owns ho)
  obtain ⟨va, vc, rfl⟩ : ∃ a c, v = .slice a 2 c := by
    obtain ⟨a, c, e, -⟩ := HO.out
    exact ⟨a, c, e⟩
  clear hc hst ho hb e12 CA
  have hb3 := (Below.refl _ w2).alloc (Nat.le_refl _) (.cells #[.int .i64 1, .int .i64 2] 3)
  have HB3 := Lib.hid hb3
  have hg := heap_alloc_new w2 (.cells #[.int .i64 1, .int .i64 2] 3)
  have hrs : RS (w2.alloc (.cells #[.int .i64 1, .int .i64 2] 3)).heap.size (w2.alloc (.cells #[.int .i64 1, .int .i64 2] 3)) (.slice (some ⟨w2.heap.size, 0, none⟩) 2 2) [(1 : Int), 2].length (ints [1, 2]) :=
    ⟨_, _, rfl, fun _ => ⟨w2.heap.size, 0, rfl, by simp, fun j u hj => by
      have hc : ∀ k, (w2.alloc (.cells #[.int .i64 1, .int .i64 2] 3)).cell? ⟨w2.heap.size, k, none⟩ = (#[.int .i64 1, .int .i64 2] : Array Value)[k]? := fun k => by simp only [World.cell?, hg]; rfl
      rw [Nat.zero_add, hc]
      simpa [ints] using hj⟩⟩
  have CE := Lib.hid (sequal_any (l := [1, 2]) (by simp) ((HO.out.below hb3).mono hb3.size) hrs)
  clear hb3 hg hrs
  go_wp2_with fail
  refine CE.out.mono ?_
  rintro e w4 ⟨rfl, hb⟩
  have HB4 := Lib.hid (HB2.out.trans ((HB3.out.trans (hb.mono HB3.out.size)).mono HB2.out.size))
  clear hb CE
  go_wp2
  go_ret
  exact ⟨rfl, HB4.out⟩
end Go.Proofs.Ytiacgaplhndlnaa
