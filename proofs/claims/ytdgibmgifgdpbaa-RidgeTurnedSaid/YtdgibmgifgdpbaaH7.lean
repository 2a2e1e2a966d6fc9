/-
  Parts of the proof, in the order in which they build: MadeA.
-/
import Derived.Test.YtdgibmgifgdpbaaH6
import Derived.Test.YtdgibmgifgdpbaaH1
import Derived.Test.YtdgibmgifgdpbaaH2
import Derived.Test.YtdgibmgifgdpbaaH3
set_option linter.unusedVariables false
set_option linter.unusedSimpArgs false
namespace Go.Proofs.Ytdgibmgifgdpbaa
open Go.RowKit Go.Shelf
open Lim

set_option maxRecDepth 20000 in
set_option maxHeartbeats 1000000 in
theorem lbeside_any (m a b : Nat) (hv sv : Value) (w : World) (hm : 0 < m ∧ m ≤ 100) (ha : a < 100) (hb : b < 100) :
    Calls Try.prog 51 #[.agg #[.int .i64 m, hv, sv], .int .i64 a, .int .i64 b] w fun e w' => e = .returned (.bool (bes m a b)) ∧ Below w.heap.size w w' := by
  have e1 : (a : Int).tmod (m : Int) = ((a % m : Nat) : Int) := (Int.ofNat_tmod _ _).symm
  have e2 : (b : Int).tmod (m : Int) = ((b % m : Nat) : Int) := (Int.ofNat_tmod _ _).symm
  have e3 : (a : Int).tdiv (m : Int) = ((a / m : Nat) : Int) := (Int.ofNat_tdiv _ _).symm
  have e4 : (b : Int).tdiv (m : Int) = ((b / m : Nat) : Int) := (Int.ofNat_tdiv _ _).symm
  have b1 := Nat.mod_lt a hm.1
  have b2 := Nat.mod_lt b hm.1
  have b3 := Nat.div_le_self a m
  have b4 := Nat.div_le_self b m
  have hm0 : ¬ m = 0 := by omega
  have HE : Hid (bes m a b = ((((a % m : Nat) : Int) - ((b % m : Nat) : Int)) * (((a % m : Nat) : Int) - ((b % m : Nat) : Int)) + (((a / m : Nat) : Int) - ((b / m : Nat) : Int)) * (((a / m : Nat) : Int) - ((b / m : Nat) : Int)) == 1)) := Lib.hid rfl
  generalize bes m a b = r at HE ⊢
  generalize a % m = am at *
  generalize b % m = bm at *
  generalize a / m = ad at *
  generalize b / m = bd at *
  obtain ⟨x, hx⟩ : ∃ x : Int, x = (am : Int) - (bm : Int) := ⟨_, rfl⟩
  obtain ⟨y, hy⟩ : ∃ y : Int, y = (ad : Int) - (bd : Int) := ⟨_, rfl⟩
  have hxr : -100 ≤ x ∧ x ≤ 100 := by omega
  have hyr : -100 ≤ y ∧ y ≤ 100 := by omega
  have s1 := sq_range hxr
  have s2 := sq_range hyr
  have HE2 : Hid (r = (x * x + y * y == 1)) := Lib.hid (by rw [HE.out, ← hx, ← hy])
  clear HE
  have hx' := hx.symm
  have hy' := hy.symm
  clear hx hy
  go_enter Try.func51, Try.ntmps51
  go_wp2
  go_quiet (fail)
  go_wp2
  go_ret
  exact ⟨by rw [HE2.out]; rfl, below_drewN ((Below.refl _ _).alloc (Nat.le_refl _) _) _⟩

-- HEADEND
end Go.Proofs.Ytdgibmgifgdpbaa
