/-
  Parts of the proof, in the order in which they build: Base.
-/
import Derived.Laws.EntriesVeiled
import Derived.Test.YtohjinbgbfggcaaR3
set_option linter.unusedVariables false
set_option linter.unusedSimpArgs false
namespace Go.Proofs.Ytohjinbgbfggcaa.Rg
open Go.RowKit Go.Shelf
open Lim

def inB (n a b : Int) : Bool := decide (a ≤ n) && decide (n ≤ b)
theorem inB_true {n a b : Int} (h1 : a ≤ n) (h2 : n ≤ b) : inB n a b = true := by simp [inB, h1, h2]
theorem inB_false {n a b : Int} (h : n < a ∨ b < n) : inB n a b = false := by simp [inB]; omega
theorem inB_iff {n a b : Int} : inB n a b = true ↔ a ≤ n ∧ n ≤ b := by simp [inB]

set_option maxHeartbeats 400000 in
theorem in_any (n a b : Int) (w : World) : Calls Try.prog 64 #[.int .i64 n, .int .i64 a, .int .i64 b] w fun e w' => e = .returned (.bool (inB n a b)) ∧ w = w' := by
  by_cases h1 : a ≤ n
  · have hd : decide (a ≤ n) = true := by simpa using h1
    by_cases h2 : n ≤ b
    · rw [inB_true h1 h2]
      go_enter Try.func64, Try.ntmps64
      go_wp2
      go_ret
      exact ⟨rfl, rfl⟩
    · rw [inB_false (.inr (by omega))]
      have hd2 : decide (n ≤ b) = false := by simpa using h2
      go_enter Try.func64, Try.ntmps64
      go_wp2
      go_ret
      exact ⟨rfl, rfl⟩
  · rw [inB_false (.inl (by omega))]
    have hd : decide (a ≤ n) = false := by simpa using h1
    go_enter Try.func64, Try.ntmps64
    go_wp2
    go_ret
    exact ⟨rfl, rfl⟩

def maxL : List Int → Int → Int
  | [], f => f
  | n :: l, f => maxL l (max f n)
theorem maxL_snoc (l : List Int) : ∀ (n f : Int), maxL (l ++ [n]) f = max (maxL l f) n := by
  induction l with
  | nil => intro n f; rfl
  | cons a l ih => intro n f; exact ih n _

set_option maxHeartbeats 400000 in
theorem greatest_any (f : Int) (v : Value) (n B : Nat) (l : List Int) (w : World) (hlen : l.length ≤ 1000) (hv : RS B w v l.length (ints l)) :
    Calls Try.prog 95 #[.int .i64 f, v] w fun e w' => e = .returned (.int .i64 (maxL l f)) ∧ w = w' := by
  obtain ⟨a, cap, rfl, hc⟩ := hv
  go_enter Try.func95, Try.ntmps95
  go_wp2
  go_loop [0, 6, 9] (fun f' _ i => ∃ k : Nat, k ≤ l.length ∧ i = .int .i64 k ∧ f' = .int .i64 (maxL (l.take k) f)) (fun _ _ i => l.length - (intOf i).toNat)
  case atStart => exact ⟨0, Nat.zero_le _, rfl, rfl⟩
  case round =>
    obtain ⟨k, hk, rfl, rfl⟩ := hrel
    by_cases hlt : k < l.length
    · obtain ⟨b, off, rfl, hb, hcell⟩ := hc (ints_ne (by omega))
      have hck := hcell k _ (ints_at' l k hlt)
      have HS : Hid (maxL (l.take (k + 1)) f = max (maxL (l.take k) f) l[k]) := by rw [List.take_succ_eq_append_getElem hlt]; exact maxL_snoc _ _ _
      clear hc hcell
      go_wp2
      go_round
      case rel => exact ⟨k + 1, by omega, by go_num, by rw [HS.out, Int.max_def]; go_num⟩
      case measure => simp [intOf]; omega
    · obtain rfl : k = l.length := by omega
      go_wp2
      go_ret
      exact ⟨rfl, rfl⟩

set_option maxHeartbeats 400000 in
theorem low1_any (lo hi : Int) (w : World) : Calls Try.prog 72 #[.agg #[.int .i64 lo, .int .i64 hi]] w fun e w' => e = .returned (.int .i64 lo) ∧ Below w.heap.size w w' := by
  go_enter Try.func72, Try.ntmps72
  go_wp2
  go_ret
  exact ⟨rfl, (Below.refl _ _).alloc (Nat.le_refl _) _⟩
set_option maxHeartbeats 400000 in
theorem high1_any (lo hi : Int) (w : World) : Calls Try.prog 73 #[.agg #[.int .i64 lo, .int .i64 hi]] w fun e w' => e = .returned (.int .i64 hi) ∧ Below w.heap.size w w' := by
  go_enter Try.func73, Try.ntmps73
  go_wp2
  go_ret
  exact ⟨rfl, (Below.refl _ _).alloc (Nat.le_refl _) _⟩
set_option maxHeartbeats 400000 in
theorem low_any (w : World) : Calls Try.prog 42 #[] w fun e w' => e = .returned (.agg #[.func (.func 72) #[] #[]]) ∧ Below w.heap.size w w' := by
  go_enter Try.func42, Try.ntmps42
  go_wp2
  exact bodyPost_ret (v := .agg #[.func (.func 72) #[] #[]]) (by simp [results, Try.f42, go_sem]) rfl ⟨rfl, (Below.refl _ _).alloc (Nat.le_refl _) _⟩
set_option maxHeartbeats 400000 in
theorem high_any (w : World) : Calls Try.prog 43 #[] w fun e w' => e = .returned (.agg #[.func (.func 73) #[] #[]]) ∧ Below w.heap.size w w' := by
  go_enter Try.func43, Try.ntmps43
  go_wp2
  exact bodyPost_ret (v := .agg #[.func (.func 73) #[] #[]]) (by simp [results, Try.f43, go_sem]) rfl ⟨rfl, (Below.refl _ _).alloc (Nat.le_refl _) _⟩
set_option maxHeartbeats 400000 in
theorem opened1_any (s : Int) (w : World) : Calls Try.prog 66 #[.int .i64 s] w fun e w' => e = .returned (.bool (!inB s 0 2)) ∧ w = w' := by
  go_enter Try.func66, Try.ntmps66
  go_wp2_with (go_at_call 64; refine (in_any _ _ _ _).mono ?_; rintro e w' ⟨rfl, rfl⟩)
  go_ret
  exact ⟨rfl, rfl⟩
set_option maxHeartbeats 400000 in
theorem opened2_any (lo hi : Int) (w : World) : Calls Try.prog 68 #[.agg #[.int .i64 lo, .int .i64 hi]] w fun e w' => e = .returned (.bool (!inB lo 0 hi || decide (10000 < hi))) ∧ Below w.heap.size w w' := by
  have hb : inB lo 0 hi = true ∨ inB lo 0 hi = false := by cases inB lo 0 hi <;> simp
  rcases hb with hb | hb
  · go_enter Try.func68, Try.ntmps68
    go_wp2_with (go_at_call 64; refine (in_any _ _ _ _).mono ?_; rintro e w' ⟨rfl, rfl⟩)
    go_ret
    exact ⟨by simp [hb], (Below.refl _ _).alloc (Nat.le_refl _) _⟩
  · go_enter Try.func68, Try.ntmps68
    go_wp2_with (go_at_call 64; refine (in_any _ _ _ _).mono ?_; rintro e w' ⟨rfl, rfl⟩)
    go_ret
    exact ⟨by simp [hb], (Below.refl _ _).alloc (Nat.le_refl _) _⟩

end Go.Proofs.Ytohjinbgbfggcaa.Rg
