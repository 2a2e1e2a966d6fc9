/-
  Parts of the proof, in the order in which they build: CoB.
-/
import Derived.Deep.CutRange
import Derived.Test.YtiacgaplhndlnaaN29
import Derived.Test.YtiacgaplhndlnaaN30
import Derived.Test.YtiacgaplhndlnaaN6
import Derived.Test.YtiacgaplhndlnaaN11
import Derived.Test.YtiacgaplhndlnaaN13
set_option linter.unusedVariables false
set_option linter.unusedSimpArgs false
namespace Go.Proofs.Ytiacgaplhndlnaa
open Go.RowKit Go.Shelf
open Lim


def stk (S : List (Nat × Nat)) : List (Int × Int) := S.map fun s => ((s.1 : Int), (s.2 : Int))
theorem stk_length (S : List (Nat × Nat)) : (stk S).length = S.length := by simp [stk]
theorem stk_at {S : List (Nat × Nat)} {k : Nat} (h : k < S.length) : (stk S).getD k (0, 0) = (((S.getD k (0, 0)).1 : Int), ((S.getD k (0, 0)).2 : Int)) := by
  simp [stk, List.getD_eq_getElem?_getD, h]
theorem strike_cells {B : Nat} {v : Value} {S : List (Nat × Nat)} {w : World} (hv : RS B w v S.length (spans (stk S))) {k : Nat} (h : k < S.length) : ∃ b off cap, v = .slice (some ⟨b, off, none⟩) S.length cap ∧ w.cell? ⟨b, off + k * 2, none⟩ = some (.int .i64 (S.getD k (0, 0)).1) ∧ w.cell? ⟨b, off + k * 2 + 1, none⟩ = some (.int .i64 (S.getD k (0, 0)).2) := by
  obtain ⟨a, cap, rfl, hc⟩ := hv
  obtain ⟨b, off, rfl, hb, hcell⟩ := hc (spans_ne (by rw [stk_length]; omega))
  have h1 := hcell _ _ (spans_lo (stk S) k (by rw [stk_length]; exact h))
  have h2 := hcell _ _ (spans_hi (stk S) k (by rw [stk_length]; exact h))
  have e : (stk S)[k]'(by rw [stk_length]; exact h) = (((S.getD k (0, 0)).1 : Int), ((S.getD k (0, 0)).2 : Int)) := by
    have := stk_at h
    rw [List.getD_eq_getElem?_getD, List.getElem?_eq_getElem (by rw [stk_length]; exact h)] at this
    exact this
  rw [e] at h1 h2
  exact ⟨b, off, cap, rfl, h1, h2⟩
set_option maxHeartbeats 400000 in
theorem cfrom_any (n a b : Int) (w : World) : Calls Try.prog 42 #[.int .i64 n, .int .i64 a, .int .i64 b] w fun e w' => e = .returned (.bool (inB n a b)) ∧ w = w' := by
  by_cases h1 : a ≤ n
  · have hd : decide (a ≤ n) = true := by simpa using h1
    by_cases h2 : n ≤ b
    · rw [inB_true h1 h2]
      go_enter Try.func42, Try.ntmps42
      go_wp2
      go_ret
      exact ⟨rfl, rfl⟩
    · rw [inB_false (.inr (by omega))]
      have hd2 : decide (n ≤ b) = false := by simpa using h2
      go_enter Try.func42, Try.ntmps42
      go_wp2
      go_ret
      exact ⟨rfl, rfl⟩
  · rw [inB_false (.inl (by omega))]
    have hd : decide (a ≤ n) = false := by simpa using h1
    go_enter Try.func42, Try.ntmps42
    go_wp2
    go_ret
    exact ⟨rfl, rfl⟩

set_option maxHeartbeats 400000 in
theorem claimed_any {C sn sc : Nat} {sa : Option Addr} (hC : C ≤ 1000) (n : Int) (w : World) : Calls Try.prog 111 #[.agg #[.int .i64 C, .slice sa sn sc, .slice none 0 0], .int .i64 n] w fun e w' => e = .returned (.bool (inB n 0 ((C : Int) - 1))) ∧ Below w.heap.size w w' := by
  have HB := Lib.hid ((Below.refl _ w).alloc (Nat.le_refl _) (.cells #[.int .i64 C, .slice sa sn sc, .slice none 0 0] 36))
  have hw : IntKind.i64.wrap ((C : Int) - 1) = (C : Int) - 1 := IntWalk.i64_in _ (by omega)
  go_enter Try.func111, Try.ntmps111
  go_wp2_with fail
  refine (cfrom_any _ _ _ _).mono ?_
  rintro e w1 ⟨rfl, rfl⟩
  go_wp2
  go_ret
  exact ⟨rfl, HB.out⟩
set_option maxHeartbeats 400000 in
theorem strange_any {C sn sc : Nat} {sa : Option Addr} (hC : C ≤ 1000) (n : Int) (w : World) : Calls Try.prog 72 #[.agg #[.int .i64 C, .slice sa sn sc, .slice none 0 0], .int .i64 n] w fun e w' => e = .returned (.bool (!inB n 0 ((C : Int) - 1))) ∧ Below w.heap.size w w' := by
  have HB := Lib.hid ((Below.refl _ w).alloc (Nat.le_refl _) (.cells #[.int .i64 C, .slice sa sn sc, .slice none 0 0] 36))
  go_enter Try.func72, Try.ntmps72
  go_wp2_with fail
  refine (claimed_any hC _ _).mono ?_
  rintro e w1 ⟨rfl, hb⟩
  have HB1 := Lib.hid (HB.out.trans (hb.mono HB.out.size))
  clear hb
  go_wp2
  go_ret
  exact ⟨rfl, HB1.out⟩
set_option maxRecDepth 20000 in
set_option maxHeartbeats 400000 in
theorem indexFunc_strikes {B f : Nat} {lb : Array Value} {p : Nat → Bool} {v : Value} {xs : List (Int × Int)} {w : World} (eg : ∀ args w, (callFunc f args).run Try.prog w = .ok (.enter f args) w) (hn : xs.length ≤ 100000) (hv : RS B w v xs.length (spans xs)) (hB : B ≤ w.heap.size)
    (hf : Says f lb xs.length (fun k => .agg #[.int .i64 (xs.getD k (0, 0)).1, .int .i64 (xs.getD k (0, 0)).2]) p w) :
    Calls Try.prog 171 #[v, .func (.func f) #[] lb] w fun e w' => (∃ r : Int, e = .returned (.int .i64 r) ∧ (0 ≤ r ↔ ∃ k, k < xs.length ∧ p k = true)) ∧ Below w.heap.size w w' := by
  obtain ⟨a, cap, rfl, hc⟩ := hv
  have HF := Lib.hid hf
  clear hf
  go_enter Try.func171, Try.ntmps171
  go_wp2
  go_loopw [8] (fun i wr => ∃ k : Nat, k ≤ xs.length ∧ i = .int .i64 k ∧ Hid (∀ j, j < k → p j = false) ∧ Below w.heap.size w wr) (fun i _ => xs.length - (intOf i).toNat)
  case atStart => exact ⟨0, Nat.zero_le _, rfl, Lib.hid (by intro j hj; omega), Below.refl _ _⟩
  case round =>
    obtain ⟨k, hk, rfl, hno, hbr⟩ := hrel
    by_cases hlt : k < xs.length
    · obtain ⟨b, off, rfl, hb, hcell⟩ := hc (spans_ne (by omega))
      have H := Lib.hid (HF.out k hlt wr hbr)
      obtain ⟨y, hy⟩ : ∃ y, y = (xs.getD k (0, 0)).1 := ⟨_, rfl⟩
      obtain ⟨u, hu⟩ : ∃ u, u = (xs.getD k (0, 0)).2 := ⟨_, rfl⟩
      simp only [← hy, ← hu] at H
      have hck : wr.cell? ⟨b, off + k * 2, none⟩ = some (.int .i64 y) := by rw [hy, List.getD_eq_getElem?_getD, List.getElem?_eq_getElem hlt]; exact cell_below hbr (hcell _ _ (spans_lo _ k hlt)) (by simp; omega)
      have hck2 : wr.cell? ⟨b, off + k * 2 + 1, none⟩ = some (.int .i64 u) := by rw [hu, List.getD_eq_getElem?_getD, List.getElem?_eq_getElem hlt]; exact cell_below hbr (hcell _ _ (spans_hi _ k hlt)) (by simp; omega)
      clear hc hcell hy hu
      go_wp2_with fail
      refine H.out.mono ?_
      rintro e w2 ⟨rfl, hb2⟩
      have hb3 : Below w.heap.size w w2 := hbr.trans (hb2.mono hbr.size)
      cases hp : p k with
      | true =>
        go_wp2
        go_ret
        exact ⟨⟨k, rfl, ⟨fun _ => ⟨k, hlt, hp⟩, fun _ => Int.natCast_nonneg _⟩⟩, hb3⟩
      | false =>
        go_wp2
        go_roundw
        case rel =>
          refine ⟨k + 1, by omega, by go_num, Lib.hid (fun j hj => ?_), hb3⟩
          by_cases e : j = k
          · rw [e]; exact hp
          · exact hno.out j (by omega)
        case measure => simp [intOf]; omega
    · obtain rfl : k = xs.length := by omega
      go_wp2
      go_ret
      exact ⟨⟨-1, rfl, ⟨fun h => by omega, fun ⟨k, hk, hp⟩ => by rw [hno.out k hk] at hp; cases hp⟩⟩, hbr⟩
set_option maxHeartbeats 400000 in
theorem containsFunc_strikes {B f : Nat} {lb : Array Value} {p : Nat → Bool} {v : Value} {xs : List (Int × Int)} {w : World} (eg : ∀ args w, (callFunc f args).run Try.prog w = .ok (.enter f args) w) (hn : xs.length ≤ 100000) (hv : RS B w v xs.length (spans xs)) (hB : B ≤ w.heap.size)
    (hf : Says f lb xs.length (fun k => .agg #[.int .i64 (xs.getD k (0, 0)).1, .int .i64 (xs.getD k (0, 0)).2]) p w) :
    Calls Try.prog 160 #[v, .func (.func f) #[] lb] w fun e w' => e = .returned (.bool ((List.range xs.length).any p)) ∧ Below w.heap.size w w' := by
  have HV := Lib.hid (And.intro hv hf)
  obtain ⟨a, cap, rfl, hc⟩ := hv
  clear hc hf
  go_enter Try.func160, Try.ntmps160
  go_wp2_with fail
  refine (indexFunc_strikes eg hn HV.out.1 hB HV.out.2).mono ?_
  rintro e w' ⟨⟨r, rfl, hr⟩, hb⟩
  have HR := Lib.hid hr
  clear hr
  go_wp2
  go_ret
  have e : decide (0 ≤ r) = (List.range xs.length).any p := by
    rw [Bool.eq_iff_iff, decide_eq_true_iff, HR.out, List.any_eq_true]
    exact ⟨fun ⟨k, h1, h2⟩ => ⟨k, List.mem_range.2 h1, h2⟩, fun ⟨k, h1, h2⟩ => ⟨k, List.mem_range.1 h1, h2⟩⟩
  exact ⟨by rw [← e]; rfl, hb⟩


set_option maxHeartbeats 400000 in
theorem none_nil (F : Value) (w : World) : Calls Try.prog 40 #[.slice none 0 0, F] w fun e w' => e = .returned (.bool true) ∧ w' = w := by
  have h1 : Calls Try.prog 105 #[.slice none 0 0, F] w fun e w' => e = .returned (.int .i64 (-1)) ∧ w' = w := by
    go_enter Try.func105, Try.ntmps105
    go_wp2
    go_loop [8] (fun i => i = .int .i64 0) (fun _ => 0)
    case atStart => rfl
    case round =>
      subst hrel
      go_wp2
      go_ret
      exact ⟨rfl, rfl⟩
  have H1 := Lib.hid h1
  clear h1
  have h2 : Calls Try.prog 88 #[.slice none 0 0, F] w fun e w' => e = .returned (.bool false) ∧ w' = w := by
    go_enter Try.func88, Try.ntmps88
    go_wp2_with fail
    refine H1.out.mono ?_
    rintro e w1 ⟨rfl, rfl⟩
    go_wp2
    go_ret
    exact ⟨rfl, rfl⟩
  have H2 := Lib.hid h2
  clear h2
  go_enter Try.func40, Try.ntmps40
  go_wp2_with fail
  refine H2.out.mono ?_
  rintro e w1 ⟨rfl, rfl⟩
  go_wp2
  go_ret
  exact ⟨rfl, rfl⟩
end Go.Proofs.Ytiacgaplhndlnaa
