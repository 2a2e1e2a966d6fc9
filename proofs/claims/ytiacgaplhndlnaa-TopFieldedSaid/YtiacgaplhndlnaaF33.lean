/-
  Parts of the proof, in the order in which they build: SiB, SiC.
-/
import Derived.Deep.CutRange
import Derived.BigQuiet
import Derived.Test.YtiacgaplhndlnaaF26
import Derived.Test.YtiacgaplhndlnaaF6
import Derived.Test.YtiacgaplhndlnaaF8
set_option linter.unusedVariables false
set_option linter.unusedSimpArgs false
/-
  Check, holds and begun of package silence, for files that are right and truths of them.
-/
namespace Go.Proofs.Ytiacgaplhndlnaa
open Go.RowKit Go.Shelf
open Lim

attribute [local go_sem] Oper.semAt_some

set_option maxHeartbeats 400000 in
theorem sfrom_any (n a b : Int) (w : World) : Calls Try.prog 144 #[.int .i64 n, .int .i64 a, .int .i64 b] w fun e w' => e = .returned (.bool (inB n a b)) ∧ w = w' := by
  by_cases h1 : a ≤ n
  · have hd : decide (a ≤ n) = true := by simpa using h1
    by_cases h2 : n ≤ b
    · rw [inB_true h1 h2]
      go_enter Try.func144, Try.ntmps144
      go_wp2
      go_ret
      exact ⟨rfl, rfl⟩
    · rw [inB_false (.inr (by omega))]
      have hd2 : decide (n ≤ b) = false := by simpa using h2
      go_enter Try.func144, Try.ntmps144
      go_wp2
      go_ret
      exact ⟨rfl, rfl⟩
  · rw [inB_false (.inl (by omega))]
    have hd : decide (a ≤ n) = false := by simpa using h1
    go_enter Try.func144, Try.ntmps144
    go_wp2
    go_ret
    exact ⟨rfl, rfl⟩

set_option maxRecDepth 20000 in
set_option maxHeartbeats 2000000 in
theorem scheck_any {B pc : Nat} {pa : Option Addr} {f : Fil11} {w : World} (h : f.Ok) (hB : B ≤ w.heap.size) (hv : RS B w (.slice pa f.n pc) f.n (paps f.P)) :
    Calls Try.prog 108 #[.agg #[.int .i64 f.years, .int .i64 f.gap, .slice pa f.n pc]] w fun e w' => e = .returned (.int .i64 0) ∧ Below w.heap.size w w' := by
  have hb0 := (Below.refl _ w).alloc (Nat.le_refl _) (.cells #[.int .i64 f.years, .int .i64 f.gap, .slice pa f.n pc] 69)
  have HB0 := Lib.hid hb0
  have c0 : (w.alloc (.cells #[.int .i64 f.years, .int .i64 f.gap, .slice pa f.n pc] 69)).cell? ⟨w.heap.size, 0, none⟩ = some (.int .i64 f.years) := by simp [go_sem]
  have c1 : (w.alloc (.cells #[.int .i64 f.years, .int .i64 f.gap, .slice pa f.n pc] 69)).cell? ⟨w.heap.size, 1, none⟩ = some (.int .i64 f.gap) := by simp [go_sem]
  have c2 : (w.alloc (.cells #[.int .i64 f.years, .int .i64 f.gap, .slice pa f.n pc] 69)).cell? ⟨w.heap.size, 2, none⟩ = some (.slice pa f.n pc) := by simp [go_sem]
  have HV := Lib.hid (And.intro (hv.below (hb0.mono hB)) (Nat.le_trans hB hb0.size))
  have HF := Lib.hid h
  have h16 : decide ((16 : Int) < f.n) = false := by have := h.n; simp; omega
  have hy : inB f.years 1 500 = true := inB_true h.y.1 h.y.2
  have hg : inB f.gap 1 200 = true := inB_true h.g.1 h.g.2
  have HI := Lib.hid (And.intro hy hg)
  clear hb0 hv h hy hg
  go_enter Try.func108, Try.ntmps108
  generalize hW : w.alloc (.cells #[.int .i64 f.years, .int .i64 f.gap, .slice pa f.n pc] 69) = w1 at HB0 c0 c1 c2 HV
  go_wp2_with fail
  refine (sfrom_any _ _ _ _).mono ?_
  rw [HI.out.1]
  rintro e w2 ⟨rfl, rfl⟩
  go_wp2_with fail
  refine (sfrom_any _ _ _ _).mono ?_
  rw [HI.out.2]
  rintro e w2 ⟨rfl, rfl⟩
  go_wp2_with fail
  clear c0 c1 c2 h16
  go_loopw [3, 25] (fun lv iv W => ∃ (k : Nat) (la : Int), k ≤ f.n ∧ iv = .int .i64 k ∧ lv = .int .i64 la ∧ Hid (Below w1.heap.size w1 W ∧ (k < f.n → la < (f.at k).lo))) (fun _ iv _ => f.n - (intOf iv).toNat)
  case atStart => exact ⟨0, -1, Nat.zero_le _, rfl, rfl, Lib.hid ⟨Below.refl _ _, fun h => by have := (HF.out.lo 0 h).1; omega⟩⟩
  case round =>
    obtain ⟨k, la, hk, rfl, rfl, hI⟩ := hrel
    by_cases hlt : k < f.n
    · have hlt' : (k : Int) < f.n := by omega
      have hk16 : (k : Int) < 16 := by have := HF.out.n; omega
      obtain ⟨pb, po, cap, e, s0, s1, s2⟩ := pap_cells (HV.out.1.below (hI.out.1.mono HV.out.2)) hlt
      simp only [Value.slice.injEq, true_and] at e
      obtain ⟨rfl, rfl⟩ := e
      obtain ⟨s, hs⟩ : ∃ s, s = (f.at k).s := ⟨_, rfl⟩
      obtain ⟨lo, hlo⟩ : ∃ s, s = (f.at k).lo := ⟨_, rfl⟩
      obtain ⟨hi, hhi⟩ : ∃ s, s = (f.at k).hi := ⟨_, rfl⟩
      have h1 := HF.out.lo k hlt
      have h2 := HF.out.hi k hlt
      have h3 := HF.out.s k hlt
      have h4 := hI.out.2 hlt
      have h5 : k + 1 < f.n → hi < (f.at (k + 1)).lo := fun h => by rw [hhi]; exact HF.out.up k h
      rw [← hs] at s0 h3
      rw [← hlo] at s1 h1 h2 h4
      rw [← hhi] at s2 h2
      have i1 : inB lo 0 3000 = true := inB_true h1.1 h1.2
      have i2 : ∀ z : Int, (z = lo + 3 ∨ z = 3000) → inB hi lo z = true := fun z hz => inB_true h2.1 (by omega)
      have HII := Lib.hid (And.intro i1 (And.intro i2 h5))
      have h7 : decide (lo ≤ la) = false := by simp; omega
      have hbb : Below wr.heap.size wr (wr.alloc (.cells #[.int .i64 s, .int .i64 lo, .int .i64 hi] 82)) := (Below.refl _ _).alloc (Nat.le_refl _) _
      have HBB := Lib.hid (hI.out.1.trans (hbb.mono hI.out.1.size))
      have b0 : (wr.alloc (.cells #[.int .i64 s, .int .i64 lo, .int .i64 hi] 82)).cell? ⟨wr.heap.size, 0, none⟩ = some (.int .i64 s) := by simp [go_sem]
      have b1 : (wr.alloc (.cells #[.int .i64 s, .int .i64 lo, .int .i64 hi] 82)).cell? ⟨wr.heap.size, 1, none⟩ = some (.int .i64 lo) := by simp [go_sem]
      have b2 : (wr.alloc (.cells #[.int .i64 s, .int .i64 lo, .int .i64 hi] 82)).cell? ⟨wr.heap.size, 2, none⟩ = some (.int .i64 hi) := by simp [go_sem]
      have hlo2 : 0 ≤ lo ∧ lo ≤ 3000 := h1
      clear hs hlo hhi h1 h2 h4 h5 i1 i2 hbb
      go_upto_region 9 with (fail)
      generalize wr.alloc (.cells #[.int .i64 s, .int .i64 lo, .int .i64 hi] 82) = w5 at HBB b0 b1 b2 ⊢
      clear s0 s1 s2
      have fin : True := trivial
      rcases h3 with rfl | rfl
      · go_wp2_with fail
        refine (sfrom_any _ _ _ _).mono ?_
        rw [HII.out.1]
        rintro e w6 ⟨rfl, rfl⟩
        go_wp2_with fail
        refine (sfrom_any _ _ _ _).mono ?_
        rw [HII.out.2.1 _ (by first | (split <;> omega) | omega)]
        rintro e w6 ⟨rfl, rfl⟩
        go_wp2_with fail
        go_roundw
        case rel => exact ⟨k + 1, hi, by omega, by go_num, rfl, Lib.hid ⟨HBB.out, HII.out.2.2⟩⟩
        case measure => simp [intOf]; omega
      · go_wp2_with fail
        refine (sfrom_any _ _ _ _).mono ?_
        rw [HII.out.1]
        rintro e w6 ⟨rfl, rfl⟩
        go_wp2_with fail
        refine (sfrom_any _ _ _ _).mono ?_
        rw [HII.out.2.1 _ (by first | (split <;> omega) | omega)]
        rintro e w6 ⟨rfl, rfl⟩
        go_wp2_with fail
        go_roundw
        case rel => exact ⟨k + 1, hi, by omega, by go_num, rfl, Lib.hid ⟨HBB.out, HII.out.2.2⟩⟩
        case measure => simp [intOf]; omega
    · have hlt' : ¬ (k : Int) < f.n := by omega
      go_wp2_with fail
      go_ret
      exact ⟨rfl, HB0.out.trans (hI.out.1.mono HB0.out.size)⟩
end Go.Proofs.Ytiacgaplhndlnaa
/-
  holds and begun of package silence, for truths of files that are right.
-/
namespace Go.Proofs.Ytiacgaplhndlnaa
open Go.RowKit Go.Shelf
open Lim

attribute [local go_sem] Oper.semAt_some

set_option maxRecDepth 20000 in
set_option maxHeartbeats 1000000 in
theorem holdsP_any {B pc q k : Nat} {pa : Option Addr} {f : Fil11} {x : Int} {w : World} (hk : k < f.n) (hn : f.n ≤ 16) (hv : RS B w (.slice pa f.n pc) f.n (paps f.P)) (hq : w.cell? ⟨q, 2, none⟩ = some (.slice pa f.n pc)) (hx : (f.at k).lo ≤ x ∧ x ≤ (f.at k).hi) :
    Calls Try.prog 146 #[.int .i64 k, .int .i64 x, .pointer (some ⟨q, 0, none⟩)] w fun e w' => e = .returned (.bool true) ∧ Below w.heap.size w w' := by
  obtain ⟨pb, po, cap, e, s0, s1, s2⟩ := pap_cells hv hk
  simp only [Value.slice.injEq, true_and] at e
  obtain ⟨rfl, rfl⟩ := e
  have hi := inB_true hx.1 hx.2
  obtain ⟨lo, hlo⟩ : ∃ s, s = (f.at k).lo := ⟨_, rfl⟩
  obtain ⟨hh, hhi⟩ : ∃ s, s = (f.at k).hi := ⟨_, rfl⟩
  rw [← hlo] at s1 hi
  rw [← hhi] at s2 hi
  have HI := Lib.hid hi
  have hk' : (k : Int) < f.n := by omega
  clear hv hx s0 hlo hhi hi
  go_enter Try.func146, Try.ntmps146
  go_upto_region 1 with (fail)
  have hC : (fun W => W.cell? ⟨q, 2, none⟩ = some (.slice (some ⟨pb, po, none⟩) f.n pc) ∧ W.cell? ⟨pb, po + k * 3 + 1, none⟩ = some (.int .i64 lo) ∧ W.cell? ⟨pb, po + k * 3 + 2, none⟩ = some (.int .i64 hh)) w.drew := ⟨hq, s1, s2⟩
  have HB := Lib.hid (Below.refl w.heap.size w).drew
  clear hq s1 s2
  generalize hW0 : w.drew = w2 at hC HB
  refine Lim.regC' (fun W => W.cell? ⟨q, 2, none⟩ = some (.slice (some ⟨pb, po, none⟩) f.n pc) ∧ W.cell? ⟨pb, po + k * 3 + 1, none⟩ = some (.int .i64 lo) ∧ W.cell? ⟨pb, po + k * 3 + 2, none⟩ = some (.int .i64 hh)) [] #[false, false, false, false, false, false, false, false, false, false, false, false, false, false, false, false, false] (by kernel_rfl) rfl ?_
  rw [hW0]; clear hW0
  refine Lim.stepR 0 (fun _ => trivial) rfl (by kernel_rfl) (fun _ _ _ _ h => h) hC rfl ?_; apply Exists.intro; refine ⟨?_, ?_⟩
  · rintro w ⟨r0, r1, r2⟩; go_simp; try with_reducible rfl
  simp only [Act.put, List.setIfInBounds_toArray, List.set_cons_succ, List.set_cons_zero]
  refine Lim.stepR 1 (fun _ => trivial) rfl (by kernel_rfl) (fun _ _ _ _ h => h) hC rfl ?_; apply Exists.intro; refine ⟨?_, ?_⟩
  · rintro w ⟨r0, r1, r2⟩; go_simp; try with_reducible rfl
  simp only [Act.put, List.setIfInBounds_toArray, List.set_cons_succ, List.set_cons_zero]
  refine Lim.stepR 2 (fun _ => trivial) rfl (by kernel_rfl) (fun _ _ _ _ h => h) hC rfl ?_; apply Exists.intro; refine ⟨?_, ?_⟩
  · rintro w ⟨r0, r1, r2⟩; go_simp; try with_reducible rfl
  simp only [Act.put, List.setIfInBounds_toArray, List.set_cons_succ, List.set_cons_zero]
  refine Lim.stepR 3 (fun _ => trivial) rfl (by kernel_rfl) (fun _ _ _ _ h => h) hC rfl ?_; apply Exists.intro; refine ⟨?_, ?_⟩
  · rintro w ⟨r0, r1, r2⟩; go_simp; try with_reducible rfl
  simp only [Act.put, List.setIfInBounds_toArray, List.set_cons_succ, List.set_cons_zero]
  refine Lim.stepR 4 (fun _ => trivial) rfl (by kernel_rfl) (fun _ _ _ _ h => h) hC rfl ?_; apply Exists.intro; refine ⟨?_, ?_⟩
  · rintro w ⟨r0, r1, r2⟩; go_simp; try with_reducible rfl
  simp only [Act.put, List.setIfInBounds_toArray, List.set_cons_succ, List.set_cons_zero]
  refine Lim.stepR 5 (fun _ => trivial) rfl (by kernel_rfl) (fun _ _ _ _ h => h) hC rfl ?_; apply Exists.intro; refine ⟨?_, ?_⟩
  · rintro w ⟨r0, r1, r2⟩; go_simp; try with_reducible rfl
  simp only [Act.put, List.setIfInBounds_toArray, List.set_cons_succ, List.set_cons_zero]
  refine Lim.stepR 6 (fun _ => trivial) rfl (by kernel_rfl) (fun _ _ _ _ h => h) hC rfl ?_; apply Exists.intro; refine ⟨?_, ?_⟩
  · rintro w ⟨r0, r1, r2⟩; go_simp; try with_reducible rfl
  simp only [Act.put, List.setIfInBounds_toArray, List.set_cons_succ, List.set_cons_zero]
  refine Lim.stepR 7 (fun _ => trivial) rfl (by kernel_rfl) (fun _ _ _ _ h => h) hC rfl ?_; apply Exists.intro; refine ⟨?_, ?_⟩
  · rintro w ⟨r0, r1, r2⟩; go_simp; try with_reducible rfl
  simp only [Act.put, List.setIfInBounds_toArray, List.set_cons_succ, List.set_cons_zero]
  refine Lim.stepR 8 (fun _ => trivial) rfl (by kernel_rfl) (fun _ _ _ _ h => h) hC rfl ?_; apply Exists.intro; refine ⟨?_, ?_⟩
  · rintro w ⟨r0, r1, r2⟩; go_simp; try with_reducible rfl
  simp only [Act.put, List.setIfInBounds_toArray, List.set_cons_succ, List.set_cons_zero]
  refine Lim.stepR 9 (fun _ => trivial) rfl (by kernel_rfl) (fun _ _ _ _ h => h) hC rfl ?_; apply Exists.intro; refine ⟨?_, ?_⟩
  · rintro w ⟨r0, r1, r2⟩; go_simp; try with_reducible rfl
  simp only [Act.put, List.setIfInBounds_toArray, List.set_cons_succ, List.set_cons_zero]
  refine Lim.stepR 10 (fun _ => trivial) rfl (by kernel_rfl) (fun _ _ _ _ h => h) hC rfl ?_; apply Exists.intro; refine ⟨?_, ?_⟩
  · rintro w ⟨r0, r1, r2⟩; go_simp; try with_reducible rfl
  simp only [Act.put, List.setIfInBounds_toArray, List.set_cons_succ, List.set_cons_zero]
  refine Lim.stepR 11 (fun _ => trivial) rfl (by kernel_rfl) (fun _ _ _ _ h => h) hC rfl ?_; apply Exists.intro; refine ⟨?_, ?_⟩
  · rintro w ⟨r0, r1, r2⟩; go_simp; try with_reducible rfl
  simp only [Act.put, List.setIfInBounds_toArray, List.set_cons_succ, List.set_cons_zero]
  refine Lim.stepR 12 (fun _ => trivial) rfl (by kernel_rfl) (fun _ _ _ _ h => h) hC rfl ?_; apply Exists.intro; refine ⟨?_, ?_⟩
  · rintro w ⟨r0, r1, r2⟩; go_simp; try with_reducible rfl
  simp only [Act.put, List.setIfInBounds_toArray, List.set_cons_succ, List.set_cons_zero]
  refine Lim.stepR 13 (fun _ => trivial) rfl (by kernel_rfl) (fun _ _ _ _ h => h) hC rfl ?_; apply Exists.intro; refine ⟨?_, ?_⟩
  · rintro w ⟨r0, r1, r2⟩; go_simp; try with_reducible rfl
  simp only [Act.put, List.setIfInBounds_toArray, List.set_cons_succ, List.set_cons_zero]
  refine Lim.stepR 14 (fun _ => trivial) rfl (by kernel_rfl) (fun _ _ _ _ h => h) hC rfl ?_; apply Exists.intro; refine ⟨?_, ?_⟩
  · rintro w ⟨r0, r1, r2⟩; go_simp; try with_reducible rfl
  simp only [Act.put, List.setIfInBounds_toArray, List.set_cons_succ, List.set_cons_zero]
  refine Lim.stepE 15 (fun _ => trivial) rfl (by kernel_rfl) rfl (fun K hK => ?_)   -- E call
  go_simp
  refine ⟨rfl, (callsIn_wide.2 (sfrom_any _ _ _ _)).mono ?_⟩
  rw [HI.out]
  rintro e w3 ⟨rfl, rfl⟩
  refine hK _ _ hC ?_
  simp only [Act.put, List.setIfInBounds_toArray, List.set_cons_succ, List.set_cons_zero]
  refine Lim.stepR 16 (fun _ => trivial) rfl (by kernel_rfl) (fun _ _ _ _ h => h) hC rfl ?_; apply Exists.intro; refine ⟨?_, ?_⟩
  · rintro w ⟨r0, r1, r2⟩; go_simp; try with_reducible rfl
  simp only [Act.put, List.setIfInBounds_toArray, List.set_cons_succ, List.set_cons_zero]
  refine Lim.stepD (by kernel_rfl) ?_
  go_wp2
  go_ret
  exact ⟨rfl, HB.out⟩
set_option maxHeartbeats 1000000 in
theorem each_any {B g : Nat} {lb : Array Value} {v : Value} {xs : List Int} {w : World} (eg : ∀ args w, (callFunc g args).run Try.prog w = .ok (.enter g args) w) (hn : xs.length ≤ 100000) (hv : RS B w v xs.length (ints xs)) (hB : B ≤ w.heap.size)
    (hf : ∀ k, k < xs.length → ∀ W, Below w.heap.size w W → Calls Try.prog g (#[.int .i64 k, .int .i64 (xs.getD k 0)] ++ lb) W fun e W' => e = .returned (.bool true) ∧ Below W.heap.size W W') :
    Calls Try.prog 145 #[v, .func (.func g) #[] lb] w fun e w' => e = .returned (.bool true) ∧ Below w.heap.size w w' := by
  have HF := Lib.hid hf
  have HV := Lib.hid (And.intro hv hB)
  obtain ⟨va, vc, rfl, -⟩ := hv
  clear hf hB
  go_enter Try.func145, Try.ntmps145
  go_wp2_with fail
  go_loopw [9] (fun iv W => ∃ k : Nat, k ≤ xs.length ∧ iv = .int .i64 k ∧ Hid (Below w.heap.size w W)) (fun iv _ => xs.length - (intOf iv).toNat)
  case atStart => exact ⟨0, Nat.zero_le _, rfl, Lib.hid (Below.refl _ _)⟩
  case round =>
    obtain ⟨k, hk, rfl, hI⟩ := hrel
    by_cases hlt : k < xs.length
    · have hlt' : (k : Int) < xs.length := by omega
      obtain ⟨gb, go, rfl, c1⟩ := cell_of_RS (p := k) (HV.out.1.below (hI.out.mono HV.out.2)) hlt
      have CF := Lib.hid (HF.out k hlt wr hI.out)
      obtain ⟨y, hy⟩ : ∃ y, y = xs.getD k 0 := ⟨_, rfl⟩
      rw [← hy] at c1 CF
      clear hy
      go_wp2_with fail
      refine CF.out.mono ?_
      rintro e w2 ⟨rfl, hb⟩
      have HB2 := Lib.hid (hI.out.trans (hb.mono hI.out.size))
      clear hb CF c1
      go_wp2_with fail
      go_roundw
      case rel => exact ⟨k + 1, by omega, by go_num, HB2⟩
      case measure => simp [intOf]; omega
    · have hlt' : ¬ (k : Int) < xs.length := by omega
      go_wp2_with fail
      go_ret
      exact ⟨rfl, hI.out⟩
set_option maxHeartbeats 1000000 in
theorem sholds_any {B pc : Nat} {pa : Option Addr} {tv : Value} {f : Fil11} {T : List Int} {w : World} (h : f.Ok) (hT : f.Is T) (hB : B ≤ w.heap.size) (hv : RS B w (.slice pa f.n pc) f.n (paps f.P)) (ht : RS B w tv T.length (ints T)) :
    Calls Try.prog 109 #[.agg #[.int .i64 f.years, .int .i64 f.gap, .slice pa f.n pc], tv] w fun e w' => e = .returned (.bool true) ∧ Below w.heap.size w w' := by
  have hb0 := (Below.refl _ w).alloc (Nat.le_refl _) (.cells #[.int .i64 f.years, .int .i64 f.gap, .slice pa f.n pc] 69)
  have HB0 := Lib.hid hb0
  have c2 : (w.alloc (.cells #[.int .i64 f.years, .int .i64 f.gap, .slice pa f.n pc] 69)).cell? ⟨w.heap.size, 2, none⟩ = some (.slice pa f.n pc) := by simp [go_sem]
  have CE := Lib.hid (each_any (g := 146) (lb := #[.pointer (some ⟨w.heap.size, 0, none⟩)]) (w := w.alloc (.cells #[.int .i64 f.years, .int .i64 f.gap, .slice pa f.n pc] 69)) (xs := T) (v := tv) (enters_of Try.func146 (by kernel_rfl) rfl) (by rw [hT.1]; have := h.n; omega) (ht.below (hb0.mono hB)) (Nat.le_trans hB hb0.size) (fun k hk W hW => by
    have hk' : k < f.n := by rw [← hT.1]; exact hk
    exact holdsP_any hk' h.n ((hv.below (hb0.mono hB)).below (hW.mono (Nat.le_trans hB hb0.size))) (hW.on c2) (hT.2 k hk')))
  obtain ⟨ta, tc, rfl, -⟩ := ht
  clear hb0 c2 hv hT h
  go_enter Try.func109, Try.ntmps109
  generalize hW : w.alloc (.cells #[.int .i64 f.years, .int .i64 f.gap, .slice pa f.n pc] 69) = w1 at HB0 CE
  go_wp2_with fail
  refine CE.out.mono ?_
  rintro e w2 ⟨rfl, hb⟩
  have HB2 := Lib.hid (HB0.out.trans (hb.mono HB0.out.size))
  clear hb
  go_wp2
  go_ret
  exact ⟨rfl, HB2.out⟩
/-- a file at work, with a truth -/
structure SiD (B b pc : Nat) (pa : Option Addr) (tv : Value) (f : Fil11) (T : List Int) (w : World) : Prop where
  c0 : w.cell? ⟨b, 0, none⟩ = some (.int .i64 f.years)
  c1 : w.cell? ⟨b, 1, none⟩ = some (.int .i64 f.gap)
  c2 : w.cell? ⟨b, 2, none⟩ = some (.slice pa f.n pc)
  c3 : w.cell? ⟨b, 3, none⟩ = some tv
  p : RS B w (.slice pa f.n pc) f.n (paps f.P)
  t : RS B w tv T.length (ints T)
  B : B ≤ w.heap.size
theorem SiD.on {B b pc : Nat} {pa : Option Addr} {tv : Value} {f : Fil11} {T : List Int} {w w' : World} (h : SiD B b pc pa tv f T w) (hb : Below w.heap.size w w') : SiD B b pc pa tv f T w' :=
  ⟨hb.on h.c0, hb.on h.c1, hb.on h.c2, hb.on h.c3, h.p.below (hb.mono h.B), h.t.below (hb.mono h.B), Nat.le_trans h.B hb.size⟩
set_option maxHeartbeats 1000000 in
theorem sbegun_any {B pc : Nat} {pa : Option Addr} {tv : Value} {f : Fil11} {T : List Int} {w : World} (h : f.Ok) (hT : f.Is T) (hB : B ≤ w.heap.size) (hv : RS B w (.slice pa f.n pc) f.n (paps f.P)) (ht : RS B w tv T.length (ints T)) :
    Calls Try.prog 69 #[.agg #[.int .i64 f.years, .int .i64 f.gap, .slice pa f.n pc], tv] w fun e w' => ∃ b, e = .returned (.tuple #[.pointer (some ⟨b, 0, none⟩), .int .i64 0]) ∧ w.heap.size ≤ b ∧ Below w.heap.size w w' ∧ SiD B b pc pa tv f T w' := by
  have hb0 := (Below.refl _ w).alloc (Nat.le_refl _) (.cells #[.int .i64 f.years, .int .i64 f.gap, .slice pa f.n pc] 69)
  have HB0 := Lib.hid hb0
  have c0 : (w.alloc (.cells #[.int .i64 f.years, .int .i64 f.gap, .slice pa f.n pc] 69)).cell? ⟨w.heap.size, 0, none⟩ = some (.int .i64 f.years) := by simp [go_sem]
  have c1 : (w.alloc (.cells #[.int .i64 f.years, .int .i64 f.gap, .slice pa f.n pc] 69)).cell? ⟨w.heap.size, 1, none⟩ = some (.int .i64 f.gap) := by simp [go_sem]
  have c2 : (w.alloc (.cells #[.int .i64 f.years, .int .i64 f.gap, .slice pa f.n pc] 69)).cell? ⟨w.heap.size, 2, none⟩ = some (.slice pa f.n pc) := by simp [go_sem]
  have HV := Lib.hid (And.intro (hv.below (hb0.mono hB)) (And.intro (ht.below (hb0.mono hB)) (Nat.le_trans hB hb0.size)))
  have HF := Lib.hid (And.intro h hT)
  have CK := Lib.hid (scheck_any h HV.out.2.2 HV.out.1)
  obtain ⟨ta, tc, rfl, -⟩ := ht
  have t1 : ((T.length : Int) != (f.n : Int)) = false := by rw [hT.1]; simp
  clear hb0 hv hT h hB
  go_enter Try.func69, Try.ntmps69
  generalize hW : w.alloc (.cells #[.int .i64 f.years, .int .i64 f.gap, .slice pa f.n pc] 69) = w1 at HB0 c0 c1 c2 CK HV
  go_wp2_with fail
  refine CK.out.mono ?_
  rintro e w2 ⟨rfl, hb⟩
  have HB2 := Lib.hid (HB0.out.trans (hb.mono HB0.out.size))
  have HV2 := Lib.hid (And.intro (HV.out.1.below (hb.mono HV.out.2.2)) (And.intro (HV.out.2.1.below (hb.mono HV.out.2.2)) (Nat.le_trans HV.out.2.2 hb.size)))
  replace c0 := hb.on c0
  replace c1 := hb.on c1
  replace c2 := hb.on c2
  clear hb CK
  have CH := Lib.hid (sholds_any HF.out.1 HF.out.2 HV2.out.2.2 HV2.out.1 HV2.out.2.1)
  go_wp2_with fail
  refine CH.out.mono ?_
  rintro e w3 ⟨rfl, hb⟩
  have HB3 := Lib.hid (HB2.out.trans (hb.mono HB2.out.size))
  have HV3 := Lib.hid (And.intro (HV2.out.1.below (hb.mono HV2.out.2.2)) (And.intro (HV2.out.2.1.below (hb.mono HV2.out.2.2)) (Nat.le_trans HV2.out.2.2 hb.size)))
  replace c0 := hb.on c0
  replace c1 := hb.on c1
  replace c2 := hb.on c2
  clear hb CH
  go_wp2_with fail
  go_ret2
  have hb : Below w3.heap.size w3 (w3.alloc (.cells #[.int .i64 f.years, .int .i64 f.gap, .slice pa f.n pc, .slice ta T.length tc] 193)) := (Below.refl _ _).alloc (Nat.le_refl _) _
  exact ⟨w3.heap.size, rfl, HB3.out.size, HB3.out.trans (hb.mono HB3.out.size), ⟨by simp [go_sem], by simp [go_sem], by simp [go_sem], by simp [go_sem], HV3.out.1.below (hb.mono HV3.out.2.2), HV3.out.2.1.below (hb.mono HV3.out.2.2), Nat.le_trans HV3.out.2.2 hb.size⟩⟩
end Go.Proofs.Ytiacgaplhndlnaa
