/-
  Parts of the proof, in the order in which they build: EvA.
-/
import Derived.Test.YtiacgaplhndlnaaRows
import Derived.Shelf.Abstract
import Derived.WalkSpells
import Derived.WalkLawsBesides
import Derived.Laws.EntriesVeiled
import Derived.Lib.Hide
import Derived.IntWalk
import Derived.BigQuiet
import Derived.Test.YtiacgaplhndlnaaF3
import Derived.Test.YtiacgaplhndlnaaF1
set_option linter.unusedVariables false
set_option linter.unusedSimpArgs false
namespace Go.Proofs.Ytiacgaplhndlnaa
open Go.RowKit Go.Shelf
open Lim

theorem _root_.Go.RowKit.Below.on {W W' : World} (hb : Below W.heap.size W W') {a : Addr} {v : Value} (h : W.cell? a = some v) : W'.cell? a = some v := (hb.cell (World.block_lt_of_cell? _ _ h)).trans h
def inB (n a b : Int) : Bool := decide (a ≤ n) && decide (n ≤ b)
theorem inB_true {n a b : Int} (h1 : a ≤ n) (h2 : n ≤ b) : inB n a b = true := by simp [inB, h1, h2]
theorem inB_false {n a b : Int} (h : n < a ∨ b < n) : inB n a b = false := by simp [inB]; omega
theorem inB_iff {n a b : Int} : inB n a b = true ↔ a ≤ n ∧ n ≤ b := by simp [inB]
set_option maxHeartbeats 400000 in
theorem in_any (n a b : Int) (w : World) : Calls Try.prog 130 #[.int .i64 n, .int .i64 a, .int .i64 b] w fun e w' => e = .returned (.bool (inB n a b)) ∧ w = w' := by
  by_cases h1 : a ≤ n
  · have hd : decide (a ≤ n) = true := by simpa using h1
    by_cases h2 : n ≤ b
    · rw [inB_true h1 h2]
      go_enter Try.func130, Try.ntmps130
      go_wp2
      go_ret
      exact ⟨rfl, rfl⟩
    · rw [inB_false (.inr (by omega))]
      have hd2 : decide (n ≤ b) = false := by simpa using h2
      go_enter Try.func130, Try.ntmps130
      go_wp2
      go_ret
      exact ⟨rfl, rfl⟩
  · rw [inB_false (.inl (by omega))]
    have hd : decide (a ≤ n) = false := by simpa using h1
    go_enter Try.func130, Try.ntmps130
    go_wp2
    go_ret
    exact ⟨rfl, rfl⟩
/-- what is asked of the elements, by their places: the function given answers p -/
def Says (f : Nat) (lb : Array Value) (n : Nat) (el : Nat → Value) (p : Nat → Bool) (w : World) : Prop :=
  ∀ k, k < n → ∀ W, Below w.heap.size w W → Calls Try.prog f (#[el k] ++ lb) W fun e W' => e = .returned (.bool (p k)) ∧ Below W.heap.size W W'

set_option maxRecDepth 20000 in
set_option maxHeartbeats 400000 in
theorem indexFunc_ints {B f : Nat} {lb : Array Value} {p : Nat → Bool} {v : Value} {xs : List Int} {w : World} (eg : ∀ args w, (callFunc f args).run Try.prog w = .ok (.enter f args) w) (hn : xs.length ≤ 100000) (hv : RS B w v xs.length (ints xs)) (hB : B ≤ w.heap.size)
    (hf : Says f lb xs.length (fun k => .int .i64 (xs.getD k 0)) p w) :
    Calls Try.prog 105 #[v, .func (.func f) #[] lb] w fun e w' => (∃ r : Int, e = .returned (.int .i64 r) ∧ (0 ≤ r ↔ ∃ k, k < xs.length ∧ p k = true)) ∧ Below w.heap.size w w' := by
  obtain ⟨a, cap, rfl, hc⟩ := hv
  have HF := Lib.hid hf
  clear hf
  go_enter Try.func105, Try.ntmps105
  go_wp2
  go_loopw [8] (fun i wr => ∃ k : Nat, k ≤ xs.length ∧ i = .int .i64 k ∧ Hid (∀ j, j < k → p j = false) ∧ Below w.heap.size w wr) (fun i _ => xs.length - (intOf i).toNat)
  case atStart => exact ⟨0, Nat.zero_le _, rfl, Lib.hid (by intro j hj; omega), Below.refl _ _⟩
  case round =>
    obtain ⟨k, hk, rfl, hno, hbr⟩ := hrel
    by_cases hlt : k < xs.length
    · obtain ⟨b, off, rfl, hb, hcell⟩ := hc (ints_ne (by omega))
      have H := Lib.hid (HF.out k hlt wr hbr)
      obtain ⟨y, hy⟩ : ∃ y, y = xs.getD k 0 := ⟨_, rfl⟩
      simp only [← hy] at H
      have hck : wr.cell? ⟨b, off + k, none⟩ = some (.int .i64 y) := by rw [hy]; exact cell_below hbr (hcell k _ (ints_at' xs k hlt)) (by simp; omega)
      clear hc hcell hy
      go_wp2_with fail
      refine H.out.mono ?_
      rintro e w2 ⟨rfl, hb2⟩
      have hb3 : Below w.heap.size w w2 := hbr.trans (hb2.mono hbr.size)
      cases hp : p k with
      | true =>
        go_wp2
        go_ret
        exact ⟨⟨k, rfl, ⟨fun _ => ⟨k, hlt, hp⟩, fun _ => Int.natCast_nonneg _⟩⟩, hb3⟩
      | false =>
        go_wp2
        go_roundw
        case rel =>
          refine ⟨k + 1, by omega, by go_num, Lib.hid (fun j hj => ?_), hb3⟩
          by_cases e : j = k
          · rw [e]; exact hp
          · exact hno.out j (by omega)
        case measure => simp [intOf]; omega
    · obtain rfl : k = xs.length := by omega
      go_wp2
      go_ret
      exact ⟨⟨-1, rfl, ⟨fun h => by omega, fun ⟨k, hk, hp⟩ => by rw [hno.out k hk] at hp; cases hp⟩⟩, hbr⟩
set_option maxHeartbeats 400000 in
theorem containsFunc_ints {B f : Nat} {lb : Array Value} {p : Nat → Bool} {v : Value} {xs : List Int} {w : World} (eg : ∀ args w, (callFunc f args).run Try.prog w = .ok (.enter f args) w) (hn : xs.length ≤ 100000) (hv : RS B w v xs.length (ints xs)) (hB : B ≤ w.heap.size)
    (hf : Says f lb xs.length (fun k => .int .i64 (xs.getD k 0)) p w) :
    Calls Try.prog 88 #[v, .func (.func f) #[] lb] w fun e w' => e = .returned (.bool ((List.range xs.length).any p)) ∧ Below w.heap.size w w' := by
  have HV := Lib.hid (And.intro hv hf)
  obtain ⟨a, cap, rfl, hc⟩ := hv
  clear hc hf
  go_enter Try.func88, Try.ntmps88
  go_wp2_with fail
  refine (indexFunc_ints eg hn HV.out.1 hB HV.out.2).mono ?_
  rintro e w' ⟨⟨r, rfl, hr⟩, hb⟩
  have HR := Lib.hid hr
  clear hr
  go_wp2
  go_ret
  have e : decide (0 ≤ r) = (List.range xs.length).any p := by
    rw [Bool.eq_iff_iff, decide_eq_true_iff, HR.out, List.any_eq_true]
    exact ⟨fun ⟨k, h1, h2⟩ => ⟨k, List.mem_range.2 h1, h2⟩, fun ⟨k, h1, h2⟩ => ⟨k, List.mem_range.1 h1, h2⟩⟩
  exact ⟨by rw [← e]; rfl, hb⟩

set_option maxHeartbeats 400000 in
theorem every1_any {f b : Nat} {lb : Array Value} {z : Bool} (x : Int) {w : World} (eg : ∀ args w, (callFunc f args).run Try.prog w = .ok (.enter f args) w) (hb : w.cell? ⟨b, 0, none⟩ = some (.func (.func f) #[] lb)) (hf : ∀ W, Below w.heap.size w W → Calls Try.prog f (#[.int .i64 x] ++ lb) W fun e W' => e = .returned (.bool z) ∧ Below W.heap.size W W') :
    Calls Try.prog 154 #[.int .i64 x, .pointer (some ⟨b, 0, none⟩)] w fun e w' => e = .returned (.bool (!z)) ∧ Below w.heap.size w w' := by
  have HF := Lib.hid hf
  clear hf
  go_enter Try.func154, Try.ntmps154
  go_wp2_with fail
  refine (HF.out _ (Below.refl _ w)).mono ?_
  rintro e w' ⟨rfl, hb⟩
  cases z <;> (go_wp2; go_ret; exact ⟨rfl, hb⟩)
theorem every_any {B f : Nat} {lb : Array Value} {p : Nat → Bool} {v : Value} {xs : List Int} {w : World} (eg : ∀ args w, (callFunc f args).run Try.prog w = .ok (.enter f args) w) (hn : xs.length ≤ 100000) (hv : RS B w v xs.length (ints xs)) (hB : B ≤ w.heap.size)
    (hf : Says f lb xs.length (fun k => .int .i64 (xs.getD k 0)) p w) :
    Calls Try.prog 128 #[v, .func (.func f) #[] lb] w fun e w' => e = .returned (.bool ((List.range xs.length).all p)) ∧ Below w.heap.size w w' := by
  have hb0 : Below w.heap.size w (w.alloc (.cells #[.func (.func f) #[] lb] 94)) := (Below.refl _ w).alloc (Nat.le_refl _) _
  have HC := Lib.hid (containsFunc_ints (B := B) (f := 154) (lb := #[.pointer (some ⟨w.heap.size, 0, none⟩)]) (p := fun k => !p k) (v := v) (xs := xs) (w := w.alloc (.cells #[.func (.func f) #[] lb] 94)) (enters_of Try.func154 (by kernel_rfl) rfl) hn (hv.below (hb0.mono hB)) (by simp; omega) (fun k hk W hW => by
    have hc : W.cell? ⟨w.heap.size, 0, none⟩ = some (.func (.func f) #[] lb) := hW.on (by simp [go_sem])
    exact every1_any _ eg hc (fun W' hW' => hf k hk W' ((hb0.trans (hW.mono hb0.size)).trans (hW'.mono (Nat.le_trans hb0.size hW.size))))))
  have HB0 := Lib.hid hb0
  obtain ⟨a, cap, rfl, -⟩ := hv
  clear hb0 hf
  go_enter Try.func128, Try.ntmps128
  go_wp2_with fail
  refine HC.out.mono ?_
  rintro e w' ⟨rfl, hb⟩
  have HB := Lib.hid (HB0.out.trans (hb.mono HB0.out.size))
  obtain ⟨z, hz⟩ : ∃ z, z = (List.range xs.length).any fun k => !p k := ⟨_, rfl⟩
  rw [← hz]
  have HZ : Hid ((List.range xs.length).all p = !z) := Lib.hid (by rw [hz, List.all_eq_not_any_not])
  clear hb hz
  go_wp2
  go_ret
  exact ⟨by rw [HZ.out]; rfl, HB.out⟩
end Go.Proofs.Ytiacgaplhndlnaa
