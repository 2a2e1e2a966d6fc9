/-
  Parts of the proof, in the order in which they build: Base.
-/
import Derived.Laws.EntriesVeiled
import Derived.Test.YtdgibmgifgdpbaaG4
set_option linter.unusedVariables false
set_option linter.unusedSimpArgs false
namespace Go.Proofs.Ytdgibmgifgdpbaa
open Go.RowKit Go.Shelf
open Lim

def inB (n a b : Int) : Bool := decide (a ≤ n) && decide (n ≤ b)
theorem inB_true {n a b : Int} (h1 : a ≤ n) (h2 : n ≤ b) : inB n a b = true := by simp [inB, h1, h2]
theorem inB_false {n a b : Int} (h : n < a ∨ b < n) : inB n a b = false := by simp [inB]; omega
theorem inB_iff {n a b : Int} : inB n a b = true ↔ a ≤ n ∧ n ≤ b := by simp [inB]

set_option maxHeartbeats 400000 in
theorem in_any (n a b : Int) (w : World) : Calls Try.prog 71 #[.int .i64 n, .int .i64 a, .int .i64 b] w fun e w' => e = .returned (.bool (inB n a b)) ∧ w = w' := by
  by_cases h1 : a ≤ n
  · have hd : decide (a ≤ n) = true := by simpa using h1
    by_cases h2 : n ≤ b
    · rw [inB_true h1 h2]
      go_enter Try.func71, Try.ntmps71
      go_wp2
      go_ret
      exact ⟨rfl, rfl⟩
    · rw [inB_false (.inr (by omega))]
      have hd2 : decide (n ≤ b) = false := by simpa using h2
      go_enter Try.func71, Try.ntmps71
      go_wp2
      go_ret
      exact ⟨rfl, rfl⟩
  · rw [inB_false (.inl (by omega))]
    have hd : decide (a ≤ n) = false := by simpa using h1
    go_enter Try.func71, Try.ntmps71
    go_wp2
    go_ret
    exact ⟨rfl, rfl⟩

def maxL : List Int → Int → Int
  | [], f => f
  | n :: l, f => maxL l (max f n)
theorem maxL_snoc (l : List Int) : ∀ (n f : Int), maxL (l ++ [n]) f = max (maxL l f) n := by
  induction l with
  | nil => intro n f; rfl
  | cons a l ih => intro n f; exact ih n _

set_option maxHeartbeats 400000 in
theorem greatest_any (f : Int) (v : Value) (n B : Nat) (l : List Int) (w : World) (hlen : l.length ≤ 1000) (hv : RS B w v l.length (ints l)) :
    Calls Try.prog 66 #[.int .i64 f, v] w fun e w' => e = .returned (.int .i64 (maxL l f)) ∧ w = w' := by
  obtain ⟨a, cap, rfl, hc⟩ := hv
  go_enter Try.func66, Try.ntmps66
  go_wp2
  go_loop [0, 6, 9] (fun f' _ i => ∃ k : Nat, k ≤ l.length ∧ i = .int .i64 k ∧ f' = .int .i64 (maxL (l.take k) f)) (fun _ _ i => l.length - (intOf i).toNat)
  case atStart => exact ⟨0, Nat.zero_le _, rfl, rfl⟩
  case round =>
    obtain ⟨k, hk, rfl, rfl⟩ := hrel
    by_cases hlt : k < l.length
    · obtain ⟨b, off, rfl, hb, hcell⟩ := hc (ints_ne (by omega))
      have hck := hcell k _ (ints_at' l k hlt)
      have HS : Hid (maxL (l.take (k + 1)) f = max (maxL (l.take k) f) l[k]) := by rw [List.take_succ_eq_append_getElem hlt]; exact maxL_snoc _ _ _
      clear hc hcell
      go_wp2
      go_round
      case rel => exact ⟨k + 1, by omega, by go_num, by rw [HS.out, Int.max_def]; go_num⟩
      case measure => simp [intOf]; omega
    · obtain rfl : k = l.length := by omega
      go_wp2
      go_ret
      exact ⟨rfl, rfl⟩

set_option maxHeartbeats 400000 in
theorem low1_any (lo hi : Int) (w : World) : Calls Try.prog 95 #[.agg #[.int .i64 lo, .int .i64 hi]] w fun e w' => e = .returned (.int .i64 lo) ∧ Below w.heap.size w w' := by
  go_enter Try.func95, Try.ntmps95
  go_wp2
  go_ret
  exact ⟨rfl, (Below.refl _ _).alloc (Nat.le_refl _) _⟩
set_option maxHeartbeats 400000 in
theorem high1_any (lo hi : Int) (w : World) : Calls Try.prog 98 #[.agg #[.int .i64 lo, .int .i64 hi]] w fun e w' => e = .returned (.int .i64 hi) ∧ Below w.heap.size w w' := by
  go_enter Try.func98, Try.ntmps98
  go_wp2
  go_ret
  exact ⟨rfl, (Below.refl _ _).alloc (Nat.le_refl _) _⟩
set_option maxHeartbeats 400000 in
theorem low_any (w : World) : Calls Try.prog 64 #[] w fun e w' => e = .returned (.agg #[.func (.func 95) #[] #[]]) ∧ Below w.heap.size w w' := by
  go_enter Try.func64, Try.ntmps64
  go_wp2
  exact bodyPost_ret (v := .agg #[.func (.func 95) #[] #[]]) (by simp [results, Try.f64, go_sem]) rfl ⟨rfl, (Below.refl _ _).alloc (Nat.le_refl _) _⟩
set_option maxHeartbeats 400000 in
theorem high_any (w : World) : Calls Try.prog 72 #[] w fun e w' => e = .returned (.agg #[.func (.func 98) #[] #[]]) ∧ Below w.heap.size w w' := by
  go_enter Try.func72, Try.ntmps72
  go_wp2
  exact bodyPost_ret (v := .agg #[.func (.func 98) #[] #[]]) (by simp [results, Try.f72, go_sem]) rfl ⟨rfl, (Below.refl _ _).alloc (Nat.le_refl _) _⟩
set_option maxHeartbeats 400000 in
theorem opened1_any (s : Int) (w : World) : Calls Try.prog 90 #[.int .i64 s] w fun e w' => e = .returned (.bool (!inB s 0 2)) ∧ w = w' := by
  go_enter Try.func90, Try.ntmps90
  go_wp2_with (go_at_call 71; refine (in_any _ _ _ _).mono ?_; rintro e w' ⟨rfl, rfl⟩)
  go_ret
  exact ⟨rfl, rfl⟩
set_option maxHeartbeats 400000 in
theorem opened2_any (lo hi : Int) (w : World) : Calls Try.prog 92 #[.agg #[.int .i64 lo, .int .i64 hi]] w fun e w' => e = .returned (.bool (!inB lo 0 hi || decide (10000 < hi))) ∧ Below w.heap.size w w' := by
  have hb : inB lo 0 hi = true ∨ inB lo 0 hi = false := by cases inB lo 0 hi <;> simp
  rcases hb with hb | hb
  · go_enter Try.func92, Try.ntmps92
    go_wp2_with (go_at_call 71; refine (in_any _ _ _ _).mono ?_; rintro e w' ⟨rfl, rfl⟩)
    go_ret
    exact ⟨by simp [hb], (Below.refl _ _).alloc (Nat.le_refl _) _⟩
  · go_enter Try.func92, Try.ntmps92
    go_wp2_with (go_at_call 71; refine (in_any _ _ _ _).mono ?_; rintro e w' ⟨rfl, rfl⟩)
    go_ret
    exact ⟨by simp [hb], (Below.refl _ _).alloc (Nat.le_refl _) _⟩

/-- how a land cell drains with passes: 0 dry, 1 first, 2 second, 3 even -/
def drainI (a b : Int) : Int := if a = 10001 ∧ b = 10001 then 0 else if a < b then 1 else if b < a then 2 else 3
set_option maxHeartbeats 400000 in
theorem drains_any (a b : Int) (w : World) : Calls Try.prog 76 #[.int .i64 a, .int .i64 b] w fun e w' => e = .returned (.int .i64 (drainI a b)) ∧ w = w' := by
  have go : ∀ c1 c2 c3 c4 : Bool, (a == 10001) = c1 → (b == 10001) = c2 → decide (a < b) = c3 → decide (b < a) = c4 → Calls Try.prog 76 #[.int .i64 a, .int .i64 b] w fun e w' => e = .returned (.int .i64 (drainI a b)) ∧ w = w' := by
    intro c1 c2 c3 c4 h1 h2 h3 h4
    have hd : drainI a b = if c1 && c2 then 0 else if c3 then 1 else if c4 then 2 else 3 := by
      unfold drainI
      rw [← h1, ← h2, ← h3, ← h4]
      simp
    rw [hd]
    cases c1 <;> cases c2 <;> cases c3 <;> cases c4 <;>
      (go_enter Try.func76, Try.ntmps76
       go_wp2
       go_ret
       exact ⟨rfl, rfl⟩)
  exact go _ _ _ _ rfl rfl rfl rfl

end Go.Proofs.Ytdgibmgifgdpbaa
