/-
  Parts of the proof, in the order in which they build: PiF, PiS, PiT, PiU.
-/
import Derived.Test.YtohjinbgbfggcaaRows
import Derived.Shelf.Abstract
import Derived.WalkSpells
import Derived.WalkLawsBesides
import Derived.Laws.EntriesVeiled
import Derived.Lib.Hide
import Derived.IntWalk
import Derived.BigQuiet
import Derived.Deep.CutRange
import Derived.Test.YtohjinbgbfggcaaA1
import Derived.Test.YtohjinbgbfggcaaA0
import Derived.Test.YtohjinbgbfggcaaC1
set_option linter.unusedVariables false
set_option linter.unusedSimpArgs false
/-
  The small functions of package pillar: in, right, low, high; what a profile is in memory.
-/
namespace Go.Proofs.Ytohjinbgbfggcaa
open Go.RowKit Go.Shelf
open Lim

theorem inR_true {n a b : Int} (h1 : a ≤ n) (h2 : n ≤ b) : inR n a b = true := by simp [inR, h1, h2]
theorem inR_false {n a b : Int} (h : n < a ∨ b < n) : inR n a b = false := by simp [inR]; omega
set_option maxHeartbeats 400000 in
theorem in_any (n a b : Int) (w : World) : Calls Try.prog 25 #[.int .i64 n, .int .i64 a, .int .i64 b] w fun e w' => e = .returned (.bool (inR n a b)) ∧ w = w' := by
  by_cases h1 : a ≤ n
  · have hd : decide (a ≤ n) = true := by simpa using h1
    by_cases h2 : n ≤ b
    · rw [inR_true h1 h2]
      go_enter Try.func25, Try.ntmps25
      go_wp2
      go_ret
      exact ⟨rfl, rfl⟩
    · rw [inR_false (.inr (by omega))]
      have hd2 : decide (n ≤ b) = false := by simpa using h2
      go_enter Try.func25, Try.ntmps25
      go_wp2
      go_ret
      exact ⟨rfl, rfl⟩
  · rw [inR_false (.inl (by omega))]
    have hd : decide (a ≤ n) = false := by simpa using h1
    go_enter Try.func25, Try.ntmps25
    go_wp2
    go_ret
    exact ⟨rfl, rfl⟩
set_option maxHeartbeats 400000 in
theorem low_any (lo hi : Int) (w : World) : Calls Try.prog 47 #[.agg #[.int .i64 lo, .int .i64 hi]] w fun e w' => e = .returned (.int .i64 lo) ∧ Below w.heap.size w w' := by
  go_enter Try.func47, Try.ntmps47
  go_wp2
  go_ret
  exact ⟨rfl, (Below.refl _ _).alloc (Nat.le_refl _) _⟩
set_option maxHeartbeats 400000 in
theorem high_any (lo hi : Int) (w : World) : Calls Try.prog 46 #[.agg #[.int .i64 lo, .int .i64 hi]] w fun e w' => e = .returned (.int .i64 hi) ∧ Below w.heap.size w w' := by
  go_enter Try.func46, Try.ntmps46
  go_wp2
  go_ret
  exact ⟨rfl, (Below.refl _ _).alloc (Nat.le_refl _) _⟩
set_option maxHeartbeats 400000 in
theorem right_any (lo hi a b : Int) (w : World) : Calls Try.prog 52 #[.agg #[.int .i64 lo, .int .i64 hi], .int .i64 a, .int .i64 b] w fun e w' => e = .returned (.bool (rightS (lo, hi) a b)) ∧ Below w.heap.size w w' := by
  obtain ⟨z, hz⟩ : ∃ z, inR lo a hi = z := ⟨_, rfl⟩
  have hr : rightS (lo, hi) a b = (z && decide (hi ≤ b)) := by unfold rightS; rw [hz]
  rw [hr]
  have HZ := Lib.hid hz
  clear hz hr
  cases z with
  | true =>
    by_cases h2 : hi ≤ b
    · have hd2 : decide (hi ≤ b) = true := by simpa using h2
      rw [hd2]
      go_enter Try.func52, Try.ntmps52
      go_wp2_with (go_at_call 25; refine (in_any _ _ _ _).mono ?_; rintro e w' ⟨rfl, rfl⟩; rw [HZ.out])
      go_ret
      exact ⟨rfl, (Below.refl _ _).alloc (Nat.le_refl _) _⟩
    · have hd2 : decide (hi ≤ b) = false := by simpa using h2
      rw [hd2]
      go_enter Try.func52, Try.ntmps52
      go_wp2_with (go_at_call 25; refine (in_any _ _ _ _).mono ?_; rintro e w' ⟨rfl, rfl⟩; rw [HZ.out])
      go_ret
      exact ⟨rfl, (Below.refl _ _).alloc (Nat.le_refl _) _⟩
  | false =>
    rw [Bool.false_and]
    go_enter Try.func52, Try.ntmps52
    go_wp2_with (go_at_call 25; refine (in_any _ _ _ _).mono ?_; rintro e w' ⟨rfl, rfl⟩; rw [HZ.out])
    go_ret
    exact ⟨rfl, (Below.refl _ _).alloc (Nat.le_refl _) _⟩
/-- a profile's five cells at block b -/
structure PfC (W : World) (b : Nat) (p : Pf) (av gv : Value) : Prop where
  c0 : W.cell? ⟨b, 0, none⟩ = some av
  c1 : W.cell? ⟨b, 1, none⟩ = some gv
  c2 : W.cell? ⟨b, 2, none⟩ = some (.int .i64 p.tall)
  c3 : W.cell? ⟨b, 3, none⟩ = some (.int .i64 p.lo)
  c4 : W.cell? ⟨b, 4, none⟩ = some (.int .i64 p.hi)
theorem _root_.Go.RowKit.Below.on {W W' : World} (hb : Below W.heap.size W W') {a : Addr} {v : Value} (h : W.cell? a = some v) : W'.cell? a = some v := (hb.cell (World.block_lt_of_cell? _ _ h)).trans h
theorem PfC.grow {W W' : World} {b : Nat} {p : Pf} {av gv : Value} (h : PfC W b p av gv) (hb : Below W.heap.size W W') : PfC W' b p av gv := ⟨hb.on h.c0, hb.on h.c1, hb.on h.c2, hb.on h.c3, hb.on h.c4⟩
/-- .. and its lists, whose cells are known -/
structure PfL (B : Nat) (W : World) (p : Pf) (ab ao ac gb go gc : Nat) : Prop where
  lab : ab < B
  lgb : gb < B
  ca : ∀ i, i < p.ats.length → W.cell? ⟨ab, ao + i, none⟩ = some (.int .i64 (p.a i))
  cg : ∀ i, i < p.gr.length → W.cell? ⟨gb, go + i * 2, none⟩ = some (.int .i64 (p.g i).1) ∧ W.cell? ⟨gb, go + i * 2 + 1, none⟩ = some (.int .i64 (p.g i).2)
theorem PfL.grow {B : Nat} {W W' : World} {p : Pf} {ab ao ac gb go gc : Nat} (h : PfL B W p ab ao ac gb go gc) (hb : Below B W W') : PfL B W' p ab ao ac gb go gc :=
  ⟨h.lab, h.lgb, fun i hi => (hb.cell (p := ⟨ab, ao + i, none⟩) h.lab).trans (h.ca i hi), fun i hi => ⟨(hb.cell (p := ⟨gb, go + i * 2, none⟩) h.lgb).trans (h.cg i hi).1, (hb.cell (p := ⟨gb, go + i * 2 + 1, none⟩) h.lgb).trans (h.cg i hi).2⟩⟩
theorem PfL.mono {B B' : Nat} {W : World} {p : Pf} {ab ao ac gb go gc : Nat} (h : PfL B W p ab ao ac gb go gc) (hB : B ≤ B') : PfL B' W p ab ao ac gb go gc := ⟨Nat.lt_of_lt_of_le h.lab hB, Nat.lt_of_lt_of_le h.lgb hB, h.ca, h.cg⟩
/-- the numbers that short reckons -/
theorem short_nums {a b hi hj tl gk bd : Int} (ha : 0 ≤ a) (hb : 0 ≤ b) (hab : a + b ≤ 20000) (h1 : 0 ≤ hi ∧ hi ≤ 1000000) (h2 : 0 ≤ hj ∧ hj ≤ 1000000) (h3 : 0 ≤ tl ∧ tl ≤ 2000) (h4 : 0 ≤ gk ∧ gk ≤ 1000000) (h5 : 0 ≤ bd ∧ bd ≤ 1000) :
    ∃ s1 m1 s2 m2 ln u1 u2 u3 u4 ab u5 u6 r, IntKind.i64.wrap (hi + tl) = s1 ∧ IntKind.i64.wrap (s1 * b) = m1 ∧ IntKind.i64.wrap (hj + tl) = s2 ∧ IntKind.i64.wrap (s2 * a) = m2 ∧ IntKind.i64.wrap (m1 + m2) = ln ∧ IntKind.i64.wrap (gk * 10000000) = u1 ∧
      IntKind.i64.wrap (bd * a) = u2 ∧ IntKind.i64.wrap (u2 * b) = u3 ∧ IntKind.i64.wrap (u1 + u3) = u4 ∧ IntKind.i64.wrap (a + b) = ab ∧ IntKind.i64.wrap (u4 * ab) = u5 ∧ IntKind.i64.wrap (ln * 10000000) = u6 ∧ IntKind.i64.wrap (u5 - u6) = r ∧
      r = (gk * 10000000 + bd * a * b) * (a + b) - ((hi + tl) * b + (hj + tl) * a) * 10000000 := by
  have m1 := mul_bd (x := hi + tl) (y := b) (a := 1002000) (b := 20000) (by omega) (by omega) hb (by omega)
  have m2 := mul_bd (x := hj + tl) (y := a) (a := 1002000) (b := 20000) (by omega) (by omega) ha (by omega)
  have u2 := mul_bd (x := bd) (y := a) (a := 1000) (b := 20000) (by omega) (by omega) ha (by omega)
  have u3 := mul_bd (x := bd * a) (y := b) (a := 1000 * 20000) (b := 20000) u2.1 u2.2 hb (by omega)
  have u5 := mul_bd (x := gk * 10000000 + bd * a * b) (y := a + b) (a := 1000000 * 10000000 + 1000 * 20000 * 20000) (b := 20000) (by omega) (by omega) (by omega) (by omega)
  refine ⟨_, _, _, _, _, _, _, _, _, _, _, _, _, IntWalk.i64_in _ (by omega), IntWalk.i64_in _ (by omega), IntWalk.i64_in _ (by omega), IntWalk.i64_in _ (by omega), IntWalk.i64_in _ (by omega), IntWalk.i64_in _ (by omega), IntWalk.i64_in _ (by omega), IntWalk.i64_in _ (by omega), IntWalk.i64_in _ (by omega), IntWalk.i64_in _ (by omega), IntWalk.i64_in _ (by omega), IntWalk.i64_in _ (by omega), IntWalk.i64_in _ (by omega), rfl⟩
end Go.Proofs.Ytohjinbgbfggcaa
/-
  What package slices does with lists of numbers and of spans: Index, Contains, IndexFunc, ContainsFunc.
-/
namespace Go.Proofs.Ytohjinbgbfggcaa
open Go.RowKit Go.Shelf
open Lim

/-- what is asked of the elements, by their places: the function given answers p -/
def Says (f : Nat) (lb : Array Value) (n : Nat) (el : Nat → Value) (p : Nat → Bool) (w : World) : Prop :=
  ∀ k, k < n → ∀ W, Below w.heap.size w W → Calls Try.prog f (#[el k] ++ lb) W fun e W' => e = .returned (.bool (p k)) ∧ Below W.heap.size W W'

set_option maxRecDepth 20000 in
set_option maxHeartbeats 400000 in
theorem indexFunc_ints {B f : Nat} {lb : Array Value} {p : Nat → Bool} {v : Value} {xs : List Int} {w : World} (eg : ∀ args w, (callFunc f args).run Try.prog w = .ok (.enter f args) w) (hn : xs.length ≤ 100000) (hv : RS B w v xs.length (ints xs)) (hB : B ≤ w.heap.size)
    (hf : Says f lb xs.length (fun k => .int .i64 (xs.getD k 0)) p w) :
    Calls Try.prog 89 #[v, .func (.func f) #[] lb] w fun e w' => (∃ r : Int, e = .returned (.int .i64 r) ∧ (0 ≤ r ↔ ∃ k, k < xs.length ∧ p k = true)) ∧ Below w.heap.size w w' := by
  obtain ⟨a, cap, rfl, hc⟩ := hv
  have HF := Lib.hid hf
  clear hf
  go_enter Try.func89, Try.ntmps89
  go_wp2
  go_loopw [8] (fun i wr => ∃ k : Nat, k ≤ xs.length ∧ i = .int .i64 k ∧ Hid (∀ j, j < k → p j = false) ∧ Below w.heap.size w wr) (fun i _ => xs.length - (intOf i).toNat)
  case atStart => exact ⟨0, Nat.zero_le _, rfl, Lib.hid (by intro j hj; omega), Below.refl _ _⟩
  case round =>
    obtain ⟨k, hk, rfl, hno, hbr⟩ := hrel
    by_cases hlt : k < xs.length
    · obtain ⟨b, off, rfl, hb, hcell⟩ := hc (ints_ne (by omega))
      have H := Lib.hid (HF.out k hlt wr hbr)
      obtain ⟨y, hy⟩ : ∃ y, y = xs.getD k 0 := ⟨_, rfl⟩
      simp only [← hy] at H
      have hck : wr.cell? ⟨b, off + k, none⟩ = some (.int .i64 y) := by rw [hy]; exact cell_below hbr (hcell k _ (ints_at' xs k hlt)) (by simp; omega)
      clear hc hcell hy
      go_wp2_with fail
      refine H.out.mono ?_
      rintro e w2 ⟨rfl, hb2⟩
      have hb3 : Below w.heap.size w w2 := hbr.trans (hb2.mono hbr.size)
      cases hp : p k with
      | true =>
        go_wp2
        go_ret
        exact ⟨⟨k, rfl, ⟨fun _ => ⟨k, hlt, hp⟩, fun _ => Int.natCast_nonneg _⟩⟩, hb3⟩
      | false =>
        go_wp2
        go_roundw
        case rel =>
          refine ⟨k + 1, by omega, by go_num, Lib.hid (fun j hj => ?_), hb3⟩
          by_cases e : j = k
          · rw [e]; exact hp
          · exact hno.out j (by omega)
        case measure => simp [intOf]; omega
    · obtain rfl : k = xs.length := by omega
      go_wp2
      go_ret
      exact ⟨⟨-1, rfl, ⟨fun h => by omega, fun ⟨k, hk, hp⟩ => by rw [hno.out k hk] at hp; cases hp⟩⟩, hbr⟩
set_option maxHeartbeats 400000 in
theorem containsFunc_ints {B f : Nat} {lb : Array Value} {p : Nat → Bool} {v : Value} {xs : List Int} {w : World} (eg : ∀ args w, (callFunc f args).run Try.prog w = .ok (.enter f args) w) (hn : xs.length ≤ 100000) (hv : RS B w v xs.length (ints xs)) (hB : B ≤ w.heap.size)
    (hf : Says f lb xs.length (fun k => .int .i64 (xs.getD k 0)) p w) :
    Calls Try.prog 65 #[v, .func (.func f) #[] lb] w fun e w' => e = .returned (.bool ((List.range xs.length).any p)) ∧ Below w.heap.size w w' := by
  have HV := Lib.hid (And.intro hv hf)
  obtain ⟨a, cap, rfl, hc⟩ := hv
  clear hc hf
  go_enter Try.func65, Try.ntmps65
  go_wp2_with fail
  refine (indexFunc_ints eg hn HV.out.1 hB HV.out.2).mono ?_
  rintro e w' ⟨⟨r, rfl, hr⟩, hb⟩
  have HR := Lib.hid hr
  clear hr
  go_wp2
  go_ret
  have e : decide (0 ≤ r) = (List.range xs.length).any p := by
    rw [Bool.eq_iff_iff, decide_eq_true_iff, HR.out, List.any_eq_true]
    exact ⟨fun ⟨k, h1, h2⟩ => ⟨k, List.mem_range.2 h1, h2⟩, fun ⟨k, h1, h2⟩ => ⟨k, List.mem_range.1 h1, h2⟩⟩
  exact ⟨by rw [← e]; rfl, hb⟩

set_option maxRecDepth 20000 in
set_option maxHeartbeats 400000 in
theorem indexFunc_spans {B f : Nat} {lb : Array Value} {p : Nat → Bool} {v : Value} {xs : List (Int × Int)} {w : World} (eg : ∀ args w, (callFunc f args).run Try.prog w = .ok (.enter f args) w) (hn : xs.length ≤ 100000) (hv : RS B w v xs.length (spans xs)) (hB : B ≤ w.heap.size)
    (hf : Says f lb xs.length (fun k => .agg #[.int .i64 (xs.getD k (0, 0)).1, .int .i64 (xs.getD k (0, 0)).2]) p w) :
    Calls Try.prog 90 #[v, .func (.func f) #[] lb] w fun e w' => (∃ r : Int, e = .returned (.int .i64 r) ∧ (0 ≤ r ↔ ∃ k, k < xs.length ∧ p k = true)) ∧ Below w.heap.size w w' := by
  obtain ⟨a, cap, rfl, hc⟩ := hv
  have HF := Lib.hid hf
  clear hf
  go_enter Try.func90, Try.ntmps90
  go_wp2
  go_loopw [8] (fun i wr => ∃ k : Nat, k ≤ xs.length ∧ i = .int .i64 k ∧ Hid (∀ j, j < k → p j = false) ∧ Below w.heap.size w wr) (fun i _ => xs.length - (intOf i).toNat)
  case atStart => exact ⟨0, Nat.zero_le _, rfl, Lib.hid (by intro j hj; omega), Below.refl _ _⟩
  case round =>
    obtain ⟨k, hk, rfl, hno, hbr⟩ := hrel
    by_cases hlt : k < xs.length
    · obtain ⟨b, off, rfl, hb, hcell⟩ := hc (spans_ne (by omega))
      have H := Lib.hid (HF.out k hlt wr hbr)
      obtain ⟨y, hy⟩ : ∃ y, y = (xs.getD k (0, 0)).1 := ⟨_, rfl⟩
      obtain ⟨u, hu⟩ : ∃ u, u = (xs.getD k (0, 0)).2 := ⟨_, rfl⟩
      simp only [← hy, ← hu] at H
      have hck : wr.cell? ⟨b, off + k * 2, none⟩ = some (.int .i64 y) := by rw [hy, List.getD_eq_getElem?_getD, List.getElem?_eq_getElem hlt]; exact cell_below hbr (hcell _ _ (spans_lo _ k hlt)) (by simp; omega)
      have hck2 : wr.cell? ⟨b, off + k * 2 + 1, none⟩ = some (.int .i64 u) := by rw [hu, List.getD_eq_getElem?_getD, List.getElem?_eq_getElem hlt]; exact cell_below hbr (hcell _ _ (spans_hi _ k hlt)) (by simp; omega)
      clear hc hcell hy hu
      go_wp2_with fail
      refine H.out.mono ?_
      rintro e w2 ⟨rfl, hb2⟩
      have hb3 : Below w.heap.size w w2 := hbr.trans (hb2.mono hbr.size)
      cases hp : p k with
      | true =>
        go_wp2
        go_ret
        exact ⟨⟨k, rfl, ⟨fun _ => ⟨k, hlt, hp⟩, fun _ => Int.natCast_nonneg _⟩⟩, hb3⟩
      | false =>
        go_wp2
        go_roundw
        case rel =>
          refine ⟨k + 1, by omega, by go_num, Lib.hid (fun j hj => ?_), hb3⟩
          by_cases e : j = k
          · rw [e]; exact hp
          · exact hno.out j (by omega)
        case measure => simp [intOf]; omega
    · obtain rfl : k = xs.length := by omega
      go_wp2
      go_ret
      exact ⟨⟨-1, rfl, ⟨fun h => by omega, fun ⟨k, hk, hp⟩ => by rw [hno.out k hk] at hp; cases hp⟩⟩, hbr⟩
set_option maxHeartbeats 400000 in
theorem containsFunc_spans {B f : Nat} {lb : Array Value} {p : Nat → Bool} {v : Value} {xs : List (Int × Int)} {w : World} (eg : ∀ args w, (callFunc f args).run Try.prog w = .ok (.enter f args) w) (hn : xs.length ≤ 100000) (hv : RS B w v xs.length (spans xs)) (hB : B ≤ w.heap.size)
    (hf : Says f lb xs.length (fun k => .agg #[.int .i64 (xs.getD k (0, 0)).1, .int .i64 (xs.getD k (0, 0)).2]) p w) :
    Calls Try.prog 67 #[v, .func (.func f) #[] lb] w fun e w' => e = .returned (.bool ((List.range xs.length).any p)) ∧ Below w.heap.size w w' := by
  have HV := Lib.hid (And.intro hv hf)
  obtain ⟨a, cap, rfl, hc⟩ := hv
  clear hc hf
  go_enter Try.func67, Try.ntmps67
  go_wp2_with fail
  refine (indexFunc_spans eg hn HV.out.1 hB HV.out.2).mono ?_
  rintro e w' ⟨⟨r, rfl, hr⟩, hb⟩
  have HR := Lib.hid hr
  clear hr
  go_wp2
  go_ret
  have e : decide (0 ≤ r) = (List.range xs.length).any p := by
    rw [Bool.eq_iff_iff, decide_eq_true_iff, HR.out, List.any_eq_true]
    exact ⟨fun ⟨k, h1, h2⟩ => ⟨k, List.mem_range.2 h1, h2⟩, fun ⟨k, h1, h2⟩ => ⟨k, List.mem_range.1 h1, h2⟩⟩
  exact ⟨by rw [← e]; rfl, hb⟩

end Go.Proofs.Ytohjinbgbfggcaa
/-
  Whether something is so for all elements: the contracts of every.
-/
namespace Go.Proofs.Ytohjinbgbfggcaa
open Go.RowKit Go.Shelf
open Lim

set_option maxHeartbeats 400000 in
theorem every1_int {f b : Nat} {lb : Array Value} {z : Bool} (x : Int) {w : World} (eg : ∀ args w, (callFunc f args).run Try.prog w = .ok (.enter f args) w) (hb : w.cell? ⟨b, 0, none⟩ = some (.func (.func f) #[] lb)) (hf : ∀ W, Below w.heap.size w W → Calls Try.prog f (#[.int .i64 x] ++ lb) W fun e W' => e = .returned (.bool z) ∧ Below W.heap.size W W') :
    Calls Try.prog 74 #[.int .i64 x, .pointer (some ⟨b, 0, none⟩)] w fun e w' => e = .returned (.bool (!z)) ∧ Below w.heap.size w w' := by
  have HF := Lib.hid hf
  clear hf
  go_enter Try.func74, Try.ntmps74
  go_wp2_with fail
  obtain ⟨wx, hwx⟩ : ∃ wx : World, wx = w := ⟨_, rfl⟩
  refine (HF.out _ (by first | exact Below.refl _ _ | exact (Below.refl _ w).alloc (Nat.le_refl _) _)).mono ?_
  rintro e w' ⟨rfl, hb⟩
  have HB : Hid (Below w.heap.size w w') := Lib.hid (by first | exact hb | exact ((Below.refl _ w).alloc (Nat.le_refl _) _).trans (hb.mono (by simp)))
  clear hb hwx wx
  cases z <;> (go_wp2; go_ret; exact ⟨rfl, HB.out⟩)
theorem every_int {B f : Nat} {lb : Array Value} {p : Nat → Bool} {v : Value} {xs : List Int} {w : World} (eg : ∀ args w, (callFunc f args).run Try.prog w = .ok (.enter f args) w) (hn : xs.length ≤ 100000) (hv : RS B w v xs.length (ints xs)) (hB : B ≤ w.heap.size)
    (hf : Says f lb xs.length (fun k => .int .i64 (xs.getD k 0)) p w) :
    Calls Try.prog 48 #[v, .func (.func f) #[] lb] w fun e w' => e = .returned (.bool ((List.range xs.length).all p)) ∧ Below w.heap.size w w' := by
  have hb0 : Below w.heap.size w (w.alloc (.cells #[.func (.func f) #[] lb] 54)) := (Below.refl _ w).alloc (Nat.le_refl _) _
  have HC := Lib.hid (containsFunc_ints (B := B) (f := 74) (lb := #[.pointer (some ⟨w.heap.size, 0, none⟩)]) (p := fun k => !p k) (v := v) (xs := xs) (w := w.alloc (.cells #[.func (.func f) #[] lb] 54)) (enters_of Try.func74 (by kernel_rfl) rfl) hn (hv.below (hb0.mono hB)) (by simp; omega) (fun k hk W hW => by
    have hc : W.cell? ⟨w.heap.size, 0, none⟩ = some (.func (.func f) #[] lb) := hW.on (by simp [go_sem])
    exact every1_int _ eg hc (fun W' hW' => hf k hk W' ((hb0.trans (hW.mono hb0.size)).trans (hW'.mono (Nat.le_trans hb0.size hW.size))))))
  have HB0 := Lib.hid hb0
  obtain ⟨a, cap, rfl, -⟩ := hv
  clear hb0 hf
  go_enter Try.func48, Try.ntmps48
  go_wp2_with fail
  refine HC.out.mono ?_
  rintro e w' ⟨rfl, hb⟩
  have HB := Lib.hid (HB0.out.trans (hb.mono HB0.out.size))
  obtain ⟨z, hz⟩ : ∃ z, z = (List.range xs.length).any fun k => !p k := ⟨_, rfl⟩
  rw [← hz]
  have HZ : Hid ((List.range xs.length).all p = !z) := Lib.hid (by rw [hz, List.all_eq_not_any_not])
  clear hb hz
  go_wp2
  go_ret
  exact ⟨by rw [HZ.out]; rfl, HB.out⟩
set_option maxHeartbeats 400000 in
theorem every1_span {f b : Nat} {lb : Array Value} {z : Bool} (x y : Int) {w : World} (eg : ∀ args w, (callFunc f args).run Try.prog w = .ok (.enter f args) w) (hb : w.cell? ⟨b, 0, none⟩ = some (.func (.func f) #[] lb)) (hf : ∀ W, Below w.heap.size w W → Calls Try.prog f (#[.agg #[.int .i64 x, .int .i64 y]] ++ lb) W fun e W' => e = .returned (.bool z) ∧ Below W.heap.size W W') :
    Calls Try.prog 75 #[.agg #[.int .i64 x, .int .i64 y], .pointer (some ⟨b, 0, none⟩)] w fun e w' => e = .returned (.bool (!z)) ∧ Below w.heap.size w w' := by
  have HF := Lib.hid hf
  clear hf
  have hbx : Below w.heap.size w (w.alloc (.cells #[.int .i64 x, .int .i64 y] 28)) := (Below.refl _ w).alloc (Nat.le_refl _) _
  have hb1 := hbx.on hb
  clear hbx
  go_enter Try.func75, Try.ntmps75
  go_wp2_with fail
  obtain ⟨wx, hwx⟩ : ∃ wx : World, wx = w := ⟨_, rfl⟩
  refine (HF.out _ (by first | exact Below.refl _ _ | exact (Below.refl _ w).alloc (Nat.le_refl _) _)).mono ?_
  rintro e w' ⟨rfl, hb⟩
  have HB : Hid (Below w.heap.size w w') := Lib.hid (by first | exact hb | exact ((Below.refl _ w).alloc (Nat.le_refl _) _).trans (hb.mono (by simp)))
  clear hb hwx wx
  cases z <;> (go_wp2; go_ret; exact ⟨rfl, HB.out⟩)
theorem every_span {B f : Nat} {lb : Array Value} {p : Nat → Bool} {v : Value} {xs : List (Int × Int)} {w : World} (eg : ∀ args w, (callFunc f args).run Try.prog w = .ok (.enter f args) w) (hn : xs.length ≤ 100000) (hv : RS B w v xs.length (spans xs)) (hB : B ≤ w.heap.size)
    (hf : Says f lb xs.length (fun k => .agg #[.int .i64 (xs.getD k (0, 0)).1, .int .i64 (xs.getD k (0, 0)).2]) p w) :
    Calls Try.prog 50 #[v, .func (.func f) #[] lb] w fun e w' => e = .returned (.bool ((List.range xs.length).all p)) ∧ Below w.heap.size w w' := by
  have hb0 : Below w.heap.size w (w.alloc (.cells #[.func (.func f) #[] lb] 105)) := (Below.refl _ w).alloc (Nat.le_refl _) _
  have HC := Lib.hid (containsFunc_spans (B := B) (f := 75) (lb := #[.pointer (some ⟨w.heap.size, 0, none⟩)]) (p := fun k => !p k) (v := v) (xs := xs) (w := w.alloc (.cells #[.func (.func f) #[] lb] 105)) (enters_of Try.func75 (by kernel_rfl) rfl) hn (hv.below (hb0.mono hB)) (by simp; omega) (fun k hk W hW => by
    have hc : W.cell? ⟨w.heap.size, 0, none⟩ = some (.func (.func f) #[] lb) := hW.on (by simp [go_sem])
    exact every1_span _ _ eg hc (fun W' hW' => hf k hk W' ((hb0.trans (hW.mono hb0.size)).trans (hW'.mono (Nat.le_trans hb0.size hW.size))))))
  have HB0 := Lib.hid hb0
  obtain ⟨a, cap, rfl, -⟩ := hv
  clear hb0 hf
  go_enter Try.func50, Try.ntmps50
  go_wp2_with fail
  refine HC.out.mono ?_
  rintro e w' ⟨rfl, hb⟩
  have HB := Lib.hid (HB0.out.trans (hb.mono HB0.out.size))
  obtain ⟨z, hz⟩ : ∃ z, z = (List.range xs.length).any fun k => !p k := ⟨_, rfl⟩
  rw [← hz]
  have HZ : Hid ((List.range xs.length).all p = !z) := Lib.hid (by rw [hz, List.all_eq_not_any_not])
  clear hb hz
  go_wp2
  go_ret
  exact ⟨by rw [HZ.out]; rfl, HB.out⟩
end Go.Proofs.Ytohjinbgbfggcaa
/-
  Which profiles are right: the contract of Check; worst and best; two.
-/
namespace Go.Proofs.Ytohjinbgbfggcaa
open Go.RowKit Go.Shelf
open Lim

set_option maxHeartbeats 400000 in
theorem check1_any (x : Int) (w : World) : Calls Try.prog 49 #[.int .i64 x] w fun e w' => e = .returned (.bool (inR x 0 20000)) ∧ Below w.heap.size w w' := by
  obtain ⟨z, hz⟩ : ∃ z, inR x 0 20000 = z := ⟨_, rfl⟩
  rw [hz]
  have HZ := Lib.hid hz
  clear hz
  go_enter Try.func49, Try.ntmps49
  go_wp2_with (go_at_call 25; refine (in_any _ _ _ _).mono ?_; rintro e w' ⟨rfl, rfl⟩; rw [HZ.out])
  go_ret
  exact ⟨rfl, Below.refl _ _⟩
set_option maxHeartbeats 400000 in
theorem check2_any (x y : Int) (w : World) : Calls Try.prog 51 #[.agg #[.int .i64 x, .int .i64 y]] w fun e w' => e = .returned (.bool (rightS (x, y) 0 1000000)) ∧ Below w.heap.size w w' := by
  obtain ⟨z, hz⟩ : ∃ z, rightS (x, y) 0 1000000 = z := ⟨_, rfl⟩
  rw [hz]
  have HZ := Lib.hid hz
  clear hz
  go_enter Try.func51, Try.ntmps51
  go_wp2_with fail
  refine (right_any _ _ _ _ _).mono ?_
  rintro e w' ⟨rfl, hb⟩
  rw [HZ.out]
  have HB := Lib.hid (((Below.refl _ w).alloc (Nat.le_refl _) (.cells #[.int .i64 x, .int .i64 y] 28)).trans (hb.mono (by simp)))
  clear hb
  go_wp2
  go_ret
  exact ⟨rfl, HB.out⟩
theorem all_at (xs : List Int) (q : Int → Bool) : (List.range xs.length).all (fun k => q (xs.getD k 0)) = xs.all q := by
  rw [Bool.eq_iff_iff, List.all_eq_true, List.all_eq_true]
  constructor
  · intro h x hx
    obtain ⟨k, hk, rfl⟩ := List.mem_iff_getElem.1 hx
    have := h k (List.mem_range.2 hk)
    rwa [List.getD_eq_getElem?_getD, List.getElem?_eq_getElem hk] at this
  · intro h k hk
    have hk := List.mem_range.1 hk
    have := h xs[k] (List.getElem_mem hk)
    rwa [List.getD_eq_getElem?_getD, List.getElem?_eq_getElem hk]
theorem all_sp (xs : List (Int × Int)) (q : Int × Int → Bool) : (List.range xs.length).all (fun k => q (xs.getD k (0, 0))) = xs.all q := by
  rw [Bool.eq_iff_iff, List.all_eq_true, List.all_eq_true]
  constructor
  · intro h x hx
    obtain ⟨k, hk, rfl⟩ := List.mem_iff_getElem.1 hx
    have := h k (List.mem_range.2 hk)
    rwa [List.getD_eq_getElem?_getD, List.getElem?_eq_getElem hk] at this
  · intro h k hk
    have hk := List.mem_range.1 hk
    have := h xs[k] (List.getElem_mem hk)
    rwa [List.getD_eq_getElem?_getD, List.getElem?_eq_getElem hk]
theorem heap_alloc_newP (w : World) (o : Obj) : (w.alloc o).heap[w.heap.size]? = some o := by
  show (w.heap.push o)[w.heap.size]? = some o
  simp
theorem five_cells {W : World} {p : Nat} {a b c d e : Value} {t : TypeId} (h : W.heap[p]? = some (.cells #[a, b, c, d, e] t (0, 0))) :
    (W.cell? ⟨p, 0, none⟩ = some a ∧ W.cell? ⟨p, 1, none⟩ = some b ∧ W.cell? ⟨p, 2, none⟩ = some c ∧ W.cell? ⟨p, 3, none⟩ = some d ∧ W.cell? ⟨p, 4, none⟩ = some e) ∧ (W.frozen? ⟨p, 0, none⟩ = false ∧ W.frozen? ⟨p, 1, none⟩ = false ∧ W.frozen? ⟨p, 2, none⟩ = false ∧ W.frozen? ⟨p, 3, none⟩ = false ∧ W.frozen? ⟨p, 4, none⟩ = false) := by
  refine ⟨⟨?_, ?_, ?_, ?_, ?_⟩, ?_, ?_, ?_, ?_, ?_⟩ <;> simp [World.cell?, World.frozen?, h]
set_option maxRecDepth 20000 in
set_option maxHeartbeats 2000000 in
theorem Check_any {B : Nat} {p : Pf} {av gv : Value} {w : World} (hB : B ≤ w.heap.size) (ha : RS B w av p.ats.length (ints p.ats)) (hg : RS B w gv p.gr.length (spans p.gr)) :
    Calls Try.prog 24 #[.agg #[av, gv, .int .i64 p.tall, .int .i64 p.lo, .int .i64 p.hi]] w fun e w' => e = .returned (.int .i64 p.err) ∧ Below w.heap.size w w' := by
  have HR := Lib.hid (And.intro hB (And.intro ha hg))
  obtain ⟨a, ac, rfl, hac⟩ := ha
  obtain ⟨g, gc, rfl, -⟩ := hg
  have HAC := Lib.hid hac
  obtain ⟨tl, htl⟩ : ∃ x, x = p.tall := ⟨_, rfl⟩
  obtain ⟨lo, hlo⟩ : ∃ x, x = p.lo := ⟨_, rfl⟩
  obtain ⟨hi, hhi⟩ : ∃ x, x = p.hi := ⟨_, rfl⟩
  rw [← htl, ← hlo, ← hhi]
  have HT := Lib.hid (And.intro htl (And.intro hlo hhi))
  have hb0 : Below w.heap.size w (w.alloc (.cells #[.slice a p.ats.length ac, .slice g p.gr.length gc, .int .i64 tl, .int .i64 lo, .int .i64 hi] 30)) := (Below.refl _ w).alloc (Nat.le_refl _) _
  have HM : Hid (Below w.heap.size w (w.alloc (.cells #[.slice a p.ats.length ac, .slice g p.gr.length gc, .int .i64 tl, .int .i64 lo, .int .i64 hi] 30)) ∧ (w.alloc (.cells #[.slice a p.ats.length ac, .slice g p.gr.length gc, .int .i64 tl, .int .i64 lo, .int .i64 hi] 30)).heap[w.heap.size]? = some (.cells #[.slice a p.ats.length ac, .slice g p.gr.length gc, .int .i64 tl, .int .i64 lo, .int .i64 hi] 30 (0, 0))) := Lib.hid ⟨hb0, heap_alloc_newP w _⟩
  obtain ⟨z1, hz1⟩ : ∃ z, inR (p.ats.length : Int) 2 40 = z := ⟨_, rfl⟩
  have HZ1 := Lib.hid hz1
  clear hac htl hlo hhi hb0 hB hz1
  go_enter Try.func24, Try.ntmps24
  go_upto_region 1 with (fail)
  obtain ⟨q, hq⟩ : ∃ q, q = w.heap.size := ⟨_, rfl⟩
  have HQ := Lib.hid hq.symm
  rw [← hq] at HM
  simp only [← hq]
  clear hq
  generalize w.alloc (.cells #[.slice a p.ats.length ac, .slice g p.gr.length gc, .int .i64 tl, .int .i64 lo, .int .i64 hi] 30) = w1 at HM ⊢
  obtain ⟨⟨k0, k1, k2, k3, k4⟩, -⟩ := five_cells HM.out.2
  have HW1 : Hid (Below w.heap.size w w1) := Lib.hid (by rw [HQ.out]; exact HM.out.1)
  go_wp2_with fail
  refine (in_any _ _ _ _).mono ?_
  rintro e w' ⟨rfl, rfl⟩
  rw [HZ1.out]
  cases z1 with
  | false =>
    have HE : Hid (p.err = 3) := Lib.hid (by unfold Pf.err Pf.count; rw [HZ1.out]; rfl)
    have HB := HW1
    go_wp2
    go_ret
    exact ⟨by rw [HE.out]; rfl, HB.out⟩
  | true =>
    by_cases hl : p.gr.length = p.ats.length
    · have d1 : ((p.gr.length : Int) != (p.ats.length : Int)) = false := by rw [hl]; simp
      have HC : Hid (p.count = true) := Lib.hid (by unfold Pf.count; rw [HZ1.out, decide_eq_true hl]; rfl)
      have HN : Hid (p.gr.length = p.ats.length ∧ 2 ≤ p.ats.length ∧ p.ats.length ≤ 40) := Lib.hid ⟨hl, by have := inR_iff.1 HZ1.out; omega, by have := inR_iff.1 HZ1.out; omega⟩
      clear hl
      obtain ⟨s1, hs1⟩ : ∃ s, s = p.ats.all (fun x => inR x 0 20000) := ⟨_, rfl⟩
      obtain ⟨s2, hs2⟩ : ∃ s, s = p.gr.all (fun s => rightS s 0 1000000) := ⟨_, rfl⟩
      obtain ⟨s3, hs3⟩ : ∃ s, s = inR tl 0 2000 := ⟨_, rfl⟩
      obtain ⟨s4, hs4⟩ : ∃ s, s = rightS (lo, hi) 0 1000 := ⟨_, rfl⟩
      have HV : Hid (p.value = (s1 && (s2 && (s3 && s4)))) := Lib.hid (by unfold Pf.value; rw [hs1, hs2, hs3, hs4, HT.out.1, HT.out.2.1, HT.out.2.2])
      have hw1 : Below B w w1 := HW1.out.mono HR.out.1
      have e1 : ((List.range p.ats.length).all fun k => inR (p.ats.getD k 0) 0 20000) = s1 := by rw [hs1]; exact all_at p.ats (fun x => inR x 0 20000)
      have e2 : ((List.range p.gr.length).all fun k => rightS (p.gr.getD k (0, 0)) 0 1000000) = s2 := by rw [hs2]; exact all_sp p.gr (fun s => rightS s 0 1000000)
      have H1 := Lib.hid (every_int (B := B) (lb := #[]) (p := fun k => inR (p.ats.getD k 0) 0 20000) (enters_of Try.func49 (by kernel_rfl) rfl) (by have := HN.out; omega) (HR.out.2.1.below hw1) (Nat.le_trans HR.out.1 HW1.out.size) (fun k hk W hW => by simpa using check1_any (p.ats.getD k 0) W))
      have H2 : Hid (∀ W, Below w1.heap.size w1 W → Calls Try.prog 50 #[.slice g p.gr.length gc, .func (.func 51) #[] #[]] W fun e w' => e = .returned (.bool s2) ∧ Below W.heap.size W w') := Lib.hid fun W hW => by
        have := every_span (B := B) (lb := #[]) (p := fun k => rightS (p.gr.getD k (0, 0)) 0 1000000) (w := W) (enters_of Try.func51 (by kernel_rfl) rfl) (by have := HN.out; omega) ((HR.out.2.2.below hw1).below (hW.mono (Nat.le_trans HR.out.1 HW1.out.size))) (Nat.le_trans (Nat.le_trans HR.out.1 HW1.out.size) hW.size) (fun k hk W hW => by simpa using check2_any (p.gr.getD k (0, 0)).1 (p.gr.getD k (0, 0)).2 W)
        rw [e2] at this
        exact this
      rw [e1] at H1
      have H3 := Lib.hid hs3
      have H4 := Lib.hid hs4
      clear hs1 hs2 hs3 hs4 hw1 e1 e2
      go_wp2_with fail
      refine H1.out.mono ?_
      rintro e w2 ⟨rfl, hb2⟩
      have hk0 := hb2.on k0
      have hk1 := hb2.on k1
      have hk2 := hb2.on k2
      have hk3 := hb2.on k3
      have hk4 := hb2.on k4
      clear k0 k1 k2 k3 k4
      have HB2 : Hid (Below w.heap.size w w2 ∧ Below w1.heap.size w1 w2) := Lib.hid ⟨HW1.out.trans (hb2.mono HW1.out.size), hb2⟩
      clear hb2
      cases s1 with
      | false =>
        have HE : Hid (p.err = 4) := Lib.hid (by unfold Pf.err; rw [HC.out, HV.out]; rfl)
        have HB : Hid (Below w.heap.size w w2) := Lib.hid HB2.out.1
        go_wp2
        go_ret
        exact ⟨by rw [HE.out]; rfl, HB.out⟩
      | true =>
        go_wp2_with fail
        refine (H2.out _ HB2.out.2).mono ?_
        rintro e w3 ⟨rfl, hb3⟩
        have k0 := hb3.on hk0
        have k1 := hb3.on hk1
        have k2 := hb3.on hk2
        have k3 := hb3.on hk3
        have k4 := hb3.on hk4
        clear hk0 hk1 hk2 hk3 hk4
        have HB3 : Hid (Below w.heap.size w w3) := Lib.hid (HB2.out.1.trans (hb3.mono HB2.out.1.size))
        clear hb3
        cases s2 with
        | false =>
          have HE : Hid (p.err = 4) := Lib.hid (by unfold Pf.err; rw [HC.out, HV.out]; rfl)
          have HB : Hid (Below w.heap.size w w3) := Lib.hid HB3.out
          go_wp2
          go_ret
          exact ⟨by rw [HE.out]; rfl, HB.out⟩
        | true =>
          go_wp2_with fail
          refine (in_any _ _ _ _).mono ?_
          rintro e w' ⟨rfl, rfl⟩
          rw [← H3.out]
          cases s3 with
          | false =>
            have HE : Hid (p.err = 4) := Lib.hid (by unfold Pf.err; rw [HC.out, HV.out]; rfl)
            have HB : Hid (Below w.heap.size w w3) := Lib.hid HB3.out
            go_wp2
            go_ret
            exact ⟨by rw [HE.out]; rfl, HB.out⟩
          | true =>
            go_wp2_with fail
            refine (right_any _ _ _ _ _).mono ?_
            rintro e w4 ⟨rfl, hb4⟩
            rw [← H4.out]
            have hk0 := hb4.on k0
            clear k0 k1 k2 k3 k4
            have HB4 : Hid (Below w.heap.size w w4) := Lib.hid (HB3.out.trans (hb4.mono HB3.out.size))
            clear hb4
            cases s4 with
            | false =>
              have HE : Hid (p.err = 4) := Lib.hid (by unfold Pf.err; rw [HC.out, HV.out]; rfl)
              go_wp2
              go_ret
              exact ⟨by rw [HE.out]; rfl, HB4.out⟩
            | true =>
              have HE : Hid (p.err = if p.order = false then 5 else 0) := Lib.hid (by unfold Pf.err; rw [HC.out, HV.out]; rfl)
              obtain ⟨ab, ao, rfl, hlt, hcs⟩ := HAC.out (ints_ne (by have := HN.out; omega))
              have HA : Hid (∀ i, i < p.ats.length → w4.cell? ⟨ab, ao + i, none⟩ = some (.int .i64 (p.a i))) := Lib.hid fun i hi => by
                have h4 : Below B w w4 := HB4.out.mono HR.out.1
                rw [h4.cell (p := ⟨ab, ao + i, none⟩) hlt]
                have := hcs i _ (ints_at' p.ats i hi)
                rw [this, ← List.getD_eq_getElem?_getD]
                rfl
              clear hlt hcs HAC
              have h1 : 1 ≤ p.ats.length := by have := HN.out; omega
              by_cases hc1 : ac = 1
              · subst hc1
                go_wp2_with fail
                go_loopw [46] (fun i wr => ∃ k : Nat, k + 1 ≤ p.ats.length ∧ i = .int .i64 k ∧ Hid (Below w4.heap.size w4 wr) ∧ Hid (∀ j, j < k → p.a j < p.a (j + 1))) (fun i _ => p.ats.length - (intOf i).toNat)
                case atStart => exact ⟨0, h1, rfl, Lib.hid (Below.refl _ _), Lib.hid (by intro j hj; omega)⟩
                case round =>
                  obtain ⟨k, hk, rfl, hbr, hno⟩ := hrel
                  have hkr := hbr.out.on hk0
                  have HBr : Hid (Below w.heap.size w wr) := Lib.hid (HB4.out.trans (hbr.out.mono HB4.out.size))
                  clear hk0
                  by_cases hlt : k + 1 < p.ats.length
                  · obtain ⟨y0, hy0⟩ : ∃ y, y = p.a k := ⟨_, rfl⟩
                    obtain ⟨y1, hy1⟩ : ∃ y, y = p.a (k + 1) := ⟨_, rfl⟩
                    have c0 := hbr.out.on (HA.out k (by omega))
                    have c1 := hbr.out.on (HA.out (k + 1) hlt)
                    rw [← hy0] at c0
                    rw [← hy1] at c1
                    have hlt2 : k < p.ats.length - 1 := by omega
                    have hk64 : k + 1 < 100 := by have := HN.out; omega
                    have HY := Lib.hid (And.intro hy0 hy1)
                    clear hy0 hy1
                    by_cases hle : y1 ≤ y0
                    · have e1 : Hid (p.err = 5) := Lib.hid (by
                        rw [HE.out, if_pos]
                        rw [Bool.eq_false_iff]
                        intro h
                        have := decide_eq_true_iff.1 ((List.all_eq_true.1 h) k (List.mem_range.2 hlt2))
                        rw [← HY.out.1, ← HY.out.2] at this
                        omega)
                      have hd : decide (y1 ≤ y0) = true := decide_eq_true hle
                      go_wp2_with fail
                      go_quiet (fail)
                      go_wp2
                      go_ret
                      exact ⟨by rw [e1.out]; rfl, below_drewN HBr.out _⟩
                    · have hd : decide (y1 ≤ y0) = false := decide_eq_false hle
                      go_wp2_with fail
                      go_quiet (fail)
                      go_wp2
                      go_roundw
                      case rel =>
                        refine ⟨k + 1, by omega, by go_num, Lib.hid (below_drewN hbr.out _), Lib.hid (fun j hj => ?_)⟩
                        by_cases e : j = k
                        · rw [e, ← HY.out.1, ← HY.out.2]; omega
                        · exact hno.out j (by omega)
                      case measure => simp [intOf]; omega
                  · have hk1 : k = p.ats.length - 1 := by omega
                    have e1 : Hid (p.err = 0) := Lib.hid (by
                      rw [HE.out, if_neg]
                      rw [Bool.not_eq_false, Pf.order, List.all_eq_true]
                      intro j hj
                      rw [decide_eq_true_iff]
                      exact hno.out j (by rw [hk1]; exact List.mem_range.1 hj))
                    have hlt2 : ¬ k < p.ats.length - 1 := by omega
                    go_wp2
                    go_ret
                    exact ⟨by rw [e1.out]; rfl, HBr.out⟩
              · go_wp2_with fail
                go_loopw [46] (fun i wr => ∃ k : Nat, k + 1 ≤ p.ats.length ∧ i = .int .i64 k ∧ Hid (Below w4.heap.size w4 wr) ∧ Hid (∀ j, j < k → p.a j < p.a (j + 1))) (fun i _ => p.ats.length - (intOf i).toNat)
                case atStart => exact ⟨0, h1, rfl, Lib.hid (Below.refl _ _), Lib.hid (by intro j hj; omega)⟩
                case round =>
                  obtain ⟨k, hk, rfl, hbr, hno⟩ := hrel
                  have hkr := hbr.out.on hk0
                  have HBr : Hid (Below w.heap.size w wr) := Lib.hid (HB4.out.trans (hbr.out.mono HB4.out.size))
                  clear hk0
                  by_cases hlt : k + 1 < p.ats.length
                  · obtain ⟨y0, hy0⟩ : ∃ y, y = p.a k := ⟨_, rfl⟩
                    obtain ⟨y1, hy1⟩ : ∃ y, y = p.a (k + 1) := ⟨_, rfl⟩
                    have c0 := hbr.out.on (HA.out k (by omega))
                    have c1 := hbr.out.on (HA.out (k + 1) hlt)
                    rw [← hy0] at c0
                    rw [← hy1] at c1
                    have hlt2 : k < p.ats.length - 1 := by omega
                    have hk64 : k + 1 < 100 := by have := HN.out; omega
                    have HY := Lib.hid (And.intro hy0 hy1)
                    clear hy0 hy1
                    by_cases hle : y1 ≤ y0
                    · have e1 : Hid (p.err = 5) := Lib.hid (by
                        rw [HE.out, if_pos]
                        rw [Bool.eq_false_iff]
                        intro h
                        have := decide_eq_true_iff.1 ((List.all_eq_true.1 h) k (List.mem_range.2 hlt2))
                        rw [← HY.out.1, ← HY.out.2] at this
                        omega)
                      have hd : decide (y1 ≤ y0) = true := decide_eq_true hle
                      go_wp2_with fail
                      go_quiet (fail)
                      go_wp2
                      go_ret
                      exact ⟨by rw [e1.out]; rfl, below_drewN HBr.out _⟩
                    · have hd : decide (y1 ≤ y0) = false := decide_eq_false hle
                      go_wp2_with fail
                      go_quiet (fail)
                      go_wp2
                      go_roundw
                      case rel =>
                        refine ⟨k + 1, by omega, by go_num, Lib.hid (below_drewN hbr.out _), Lib.hid (fun j hj => ?_)⟩
                        by_cases e : j = k
                        · rw [e, ← HY.out.1, ← HY.out.2]; omega
                        · exact hno.out j (by omega)
                      case measure => simp [intOf]; omega
                  · have hk1 : k = p.ats.length - 1 := by omega
                    have e1 : Hid (p.err = 0) := Lib.hid (by
                      rw [HE.out, if_neg]
                      rw [Bool.not_eq_false, Pf.order, List.all_eq_true]
                      intro j hj
                      rw [decide_eq_true_iff]
                      exact hno.out j (by rw [hk1]; exact List.mem_range.1 hj))
                    have hlt2 : ¬ k < p.ats.length - 1 := by omega
                    go_wp2
                    go_ret
                    exact ⟨by rw [e1.out]; rfl, HBr.out⟩
    · have d1 : ((p.gr.length : Int) != (p.ats.length : Int)) = true := by rw [bne_iff_ne]; omega
      have HE : Hid (p.err = 3) := Lib.hid (by unfold Pf.err Pf.count; rw [HZ1.out, decide_eq_false hl]; rfl)
      have HB := HW1
      clear hl
      go_wp2
      go_ret
      exact ⟨by rw [HE.out]; rfl, HB.out⟩
end Go.Proofs.Ytohjinbgbfggcaa
