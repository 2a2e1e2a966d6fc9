/-
  Parts of the proof, in the order in which they build: Deck.
-/
import Derived.BigQuiet
import Derived.Test.YtohjinbgbfggcaaA9
set_option linter.unusedVariables false
set_option linter.unusedSimpArgs false
namespace Go.Proofs.Ytohjinbgbfggcaa
open Go.RowKit Go.Shelf
open Lim

def u8s (l : List Int) : List Value := l.map (Value.int .u8)
theorem u8s_length (l : List Int) : (u8s l).length = l.length := by simp [u8s]
/-- a deck: its bytes lie in a block below d -/
structure Dk (W : World) (d : Nat) (cv : Value) (l : List Int) (k s : Int) : Prop where
  c : W.cell? ⟨d, 0, none⟩ = some cv ∧ W.cell? ⟨d, 1, none⟩ = some (.int .i64 k) ∧ W.cell? ⟨d, 2, none⟩ = some (.int .u32 s)
  f : W.frozen? ⟨d, 1, none⟩ = false ∧ W.frozen? ⟨d, 2, none⟩ = false
  r : RS d W cv l.length (u8s l)
  u : ∀ x ∈ l, 0 ≤ x ∧ x ≤ 255
  k0 : 0 ≤ k ∧ k ≤ 1000000
  s0 : 0 ≤ s ∧ s < 65521
/-- how a deck is named where its numbers do not matter -/
def Deck (W : World) (d : Nat) (n : Nat) : Prop := ∃ cv l k s, Dk W d cv l k s ∧ k ≤ n
theorem grown_set {w : World} {d : Nat} (W : World) (h : w.grownBy W (some d)) (j : Nat) (v : Value) : w.grownBy (W.setCell ⟨d, j, none⟩ v) (some d) :=
  ⟨h.os, h.tape, h.output, by simpa [World.setCell] using h.size, fun k hk hd => (Below.heap_setCell W ⟨d, j, none⟩ v k (fun e => hd (by rw [e]))).trans (h.block k hk hd)⟩
theorem grown_refl (w : World) (row : Option Nat) : w.grownBy w row := ⟨rfl, rfl, rfl, Nat.le_refl _, fun _ _ _ => rfl⟩
theorem grown_trans {w w1 w2 : World} {row : Option Nat} (h : w.grownBy w1 row) (k : w1.grownBy w2 row) : w.grownBy w2 row :=
  ⟨k.os.trans h.os, k.tape.trans h.tape, k.output.trans h.output, Nat.le_trans h.size k.size, fun j hj hr => (k.block j (Nat.lt_of_lt_of_le hj h.size) hr).trans (h.block j hj hr)⟩
theorem Dk.drewN {W : World} {d : Nat} {cv : Value} {l : List Int} {k s : Int} (h : Dk W d cv l k s) (n : Nat) : Dk (W.drewN n) d cv l k s := ⟨h.c, h.f, h.r.below (below_drewN (Below.refl _ _) n), h.u, h.k0, h.s0⟩
theorem grown_drewN {w W : World} {row : Option Nat} (h : w.grownBy W row) (n : Nat) : w.grownBy (W.drewN n) row := ⟨h.os, h.tape, h.output, h.size, h.block⟩
theorem Dk.set1 {W : World} {d : Nat} {cv : Value} {l : List Int} {k s : Int} (h : Dk W d cv l k s) {k' : Int} (hk : 0 ≤ k' ∧ k' ≤ 1000000) : Dk (W.setCell ⟨d, 1, none⟩ (.int .i64 k')) d cv l k' s :=
  ⟨⟨(setCell_offP _ _ (by omega)).trans h.c.1, World.cell?_setCell_same' _ _ _ (by rw [h.c.2.1]; rfl), (setCell_offP _ _ (by omega)).trans h.c.2.2⟩, ⟨(World.frozen?_setCell ..).trans h.f.1, (World.frozen?_setCell ..).trans h.f.2⟩,
   h.r.below ((Below.refl d W).setCell (p := ⟨d, 1, none⟩) (Nat.le_refl _) _), h.u, hk, h.s0⟩
theorem Dk.set2 {W : World} {d : Nat} {cv : Value} {l : List Int} {k s : Int} (h : Dk W d cv l k s) {s' : Int} (hs : 0 ≤ s' ∧ s' < 65521) : Dk (W.setCell ⟨d, 2, none⟩ (.int .u32 s')) d cv l k s' :=
  ⟨⟨(setCell_offP _ _ (by omega)).trans h.c.1, (setCell_offP _ _ (by omega)).trans h.c.2.1, World.cell?_setCell_same' _ _ _ (by rw [h.c.2.2]; rfl)⟩, ⟨(World.frozen?_setCell ..).trans h.f.1, (World.frozen?_setCell ..).trans h.f.2⟩,
   h.r.below ((Below.refl d W).setCell (p := ⟨d, 2, none⟩) (Nat.le_refl _) _), h.u, h.k0, hs⟩
theorem tmod_range {x n : Int} (hx : 0 ≤ x) (hn : 1 < n) : 0 ≤ x.tmod n ∧ x.tmod n < n := by
  rw [Int.tmod_eq_emod_of_nonneg hx]
  exact ⟨Int.emod_nonneg _ (by omega), Int.emod_lt_of_pos _ (by omega)⟩
theorem u32_in (n : Int) (h : 0 ≤ n ∧ n < 4294967296) : IntKind.u32.wrap n = n := by
  show n % 4294967296 = n
  omega
/-- what Draw answers -/
def DrawAns (d : Nat) (cv : Value) (l : List Int) (k n : Int) (w : World) (e : Ending) (w' : World) : Prop :=
  ∃ r k' s' : Int, e = .returned (.int .i64 r) ∧ (n ≤ 1 → r = 0) ∧ 0 ≤ r ∧ (1 < n → r < n) ∧ Dk w' d cv l k' s' ∧ k' ≤ k + 1 ∧ w.grownBy w' (some d) ∧ w'.heap.size = w.heap.size
set_option maxRecDepth 200000 in
set_option maxHeartbeats 2000000 in
theorem draw_any {d : Nat} {cv : Value} {l : List Int} {k s n : Int} {w : World} (h : Dk w d cv l k s) (hk : k < 1000000) :
    Calls Try.prog 14 #[.pointer (some ⟨d, 0, none⟩), .int .i64 n] w fun e w' => DrawAns d cv l k n w e w' := by
  have HD := Lib.hid h
  obtain ⟨⟨c0, c1, c2⟩, ⟨f1, f2⟩, hr, hu, hk0, hs0⟩ := h
  obtain ⟨a, cap, rfl, hac⟩ := hr
  by_cases hn : n ≤ 1
  · have d1 : decide (n ≤ 1) = true := by simpa using hn
    have HN := Lib.hid hn
    clear hn hac hu
    go_enter Try.func14, Try.ntmps14
    go_wp2
    go_ret
    exact ⟨0, k, s, rfl, fun _ => rfl, by omega, fun h => by have := HN.out; omega, HD.out, by omega, grown_refl _ _, rfl⟩
  · have d1 : decide (n ≤ 1) = false := by simpa using hn
    by_cases hl : l.length = 0
    · have d2 : (((l.length : Nat) : Int) == 0) = true := by simp [hl]
      have HN := Lib.hid hn
      clear hn hac hu hl
      go_enter Try.func14, Try.ntmps14
      go_wp2
      go_ret
      exact ⟨0, k, s, rfl, fun _ => rfl, by omega, fun h => by omega, HD.out, by omega, grown_refl _ _, rfl⟩
    · have d2 : (((l.length : Nat) : Int) == 0) = false := by rw [beq_eq_false_iff_ne]; omega
      obtain ⟨b, off, rfl, hbd, hcell⟩ := hac (fun e => hl (by have := u8s_length l; rw [e] at this; simpa using this.symm))
      obtain ⟨kN, rfl⟩ : ∃ kN : Nat, k = kN := ⟨k.toNat, by omega⟩
      obtain ⟨L, hL⟩ : ∃ L, L = l.length := ⟨_, rfl⟩
      have hL0 : 0 < L := by omega
      obtain ⟨ix, hix⟩ : ∃ ix, ix = kN % L := ⟨_, rfl⟩
      have hixl : ix < L := by rw [hix]; exact Nat.mod_lt _ hL0
      obtain ⟨rd, hrd⟩ : ∃ rd, rd = kN / L := ⟨_, rfl⟩
      have hrdk : rd ≤ kN := by rw [hrd]; exact Nat.div_le_self _ _
      obtain ⟨x, hx⟩ : ∃ x, x = l[ix]'(by omega) := ⟨_, rfl⟩
      have hxr : 0 ≤ x ∧ x ≤ 255 := by rw [hx]; exact hu _ (List.getElem_mem _)
      have q0 : w.cell? ⟨b, off + ix, none⟩ = some (.int .u8 x) := hcell ix _ (by unfold u8s; rw [List.getElem?_map, List.getElem?_eq_getElem (by omega), hx]; rfl)
      have e1 : (kN : Int).tmod (L : Int) = (ix : Int) := by rw [hix]; exact (Int.ofNat_tmod _ _).symm
      have e2 : (kN : Int).tdiv (L : Int) = (rd : Int) := by rw [hrd]; exact (Int.ofNat_tdiv _ _).symm
      have e3 : IntKind.u32.wrap x = x := u32_in _ (by omega)
      have e4 : IntKind.u32.wrap (rd : Int) = (rd : Int) := u32_in _ (by omega)
      have e4a : IntKind.i64.wrap (rd : Int) = (rd : Int) := IntWalk.i64_in _ (by omega)
      have e5 : IntKind.i64.wrap ((kN : Int) + 1) = (kN : Int) + 1 := IntWalk.i64_in _ (by omega)
      have e6 : IntKind.u32.wrap (s * 37) = s * 37 := u32_in _ (by omega)
      have e7 : IntKind.u32.wrap (s * 37 + x) = s * 37 + x := u32_in _ (by omega)
      have e8 : IntKind.u32.wrap (101 * (rd : Int)) = 101 * (rd : Int) := u32_in _ (by omega)
      have e9 : IntKind.u32.wrap (s * 37 + x + 101 * (rd : Int)) = s * 37 + x + 101 * (rd : Int) := u32_in _ (by omega)
      obtain ⟨s2, hs2⟩ : ∃ s2, (s * 37 + x + 101 * (rd : Int)).tmod 65521 = s2 := ⟨_, rfl⟩
      have hs2r : 0 ≤ s2 ∧ s2 < 65521 := by rw [← hs2]; exact tmod_range (by omega) (by omega)
      have e10 : IntKind.u32.wrap s2 = s2 := u32_in _ (by omega)
      have e11 : IntKind.u32.wrap (s2 * 256) = s2 * 256 := u32_in _ (by omega)
      have e12 : IntKind.u32.wrap (s2 * 256 + x) = s2 * 256 + x := u32_in _ (by omega)
      have e13 : IntKind.i64.wrap (s2 * 256 + x) = s2 * 256 + x := IntWalk.i64_in _ (by omega)
      have e14 : IntKind.i64.wrap x = x := IntWalk.i64_in _ (by omega)
      have hn0 : (n == 0) = false := by rw [beq_eq_false_iff_ne]; omega
      have hn0' : ¬ n = 0 := by omega
      obtain ⟨r1, hr1⟩ : ∃ r1, x.tmod n = r1 := ⟨_, rfl⟩
      obtain ⟨r2, hr2⟩ : ∃ r2, (s2 * 256 + x).tmod n = r2 := ⟨_, rfl⟩
      have hr1r : 0 ≤ r1 ∧ r1 < n := by rw [← hr1]; exact tmod_range hxr.1 (by omega)
      have hr2r : 0 ≤ r2 ∧ r2 < n := by rw [← hr2]; exact tmod_range (by omega) (by omega)
      have HR := Lib.hid (And.intro hr1r (And.intro hr2r (And.intro hn (And.intro hs2r (And.intro hk hk0)))))
      rw [← hL] at d2 c0 ⊢
      have HLe := Lib.hid hL
      clear hix hrd hx hcell hu hac hL hr1r hr2r hl hn hk hk0 hs0 hs2r hxr hrdk
      go_enter Try.func14, Try.ntmps14
      go_wp2_with fail
      go_quiet (fail)
      have HD1 := Lib.hid (HD.out.drewN nq)
      have HGR1 := Lib.hid (grown_drewN (grown_refl w (some d)) nq)
      have q1 : (w.drewN nq).cell? ⟨b, off + ix, none⟩ = some (.int .u8 x) := q0
      have hz1 : (w.drewN nq).heap.size = w.heap.size := rfl
      have HZ1 := Lib.hid hz1
      clear c0 c1 c2 f1 f2 q0 HD hz1
      generalize w.drewN nq = w1 at HD1 HGR1 q1 HZ1 ⊢
      obtain ⟨⟨c0, c1, c2⟩, -, -, -, -, -⟩ := HD1.out
      rw [← HLe.out] at c0
      go_wp2_with fail
      go_quiet (fail)
      have HD2 := Lib.hid (HD1.out.drewN nq)
      have HGR2 := Lib.hid (grown_drewN HGR1.out nq)
      have HZ2 : Hid ((w1.drewN nq).heap.size = w.heap.size) := Lib.hid HZ1.out
      clear c0 c1 c2 HD1 HGR1 HZ1 q1 e1 e2
      generalize w1.drewN nq = w2 at HD2 HGR2 HZ2 ⊢
      obtain ⟨⟨c0, c1, c2⟩, ⟨f1, f2⟩, -, -, -, -⟩ := HD2.out
      rw [← HLe.out] at c0
      have HD3 := Lib.hid ((HD2.out.set1 (k' := (kN : Int) + 1) (by have := HR.out.2.2.2.2.1; omega)).set2 (s' := s2) HR.out.2.2.2.1)
      have HGR3 := Lib.hid (grown_set _ (grown_set _ HGR2.out 1 (.int .i64 ((kN : Int) + 1))) 2 (.int .u32 s2))
      have HZ3 : Hid (((w2.setCell ⟨d, 1, none⟩ (.int .i64 ((kN : Int) + 1))).setCell ⟨d, 2, none⟩ (.int .u32 s2)).heap.size = w.heap.size) := Lib.hid (by rw [← HZ2.out]; simp [World.setCell])
      clear HD2 HGR2 HZ2
      by_cases h256 : n ≤ 256
      · have d3 : decide (n ≤ 256) = true := by simpa using h256
        clear h256
        by_cases hrd0 : rd = 0
        · have d4 : ((rd : Int) == 0) = true := by simp [hrd0]
          clear hrd0
          go_wp2
          go_ret
          exact ⟨r1, (kN : Int) + 1, s2, rfl, fun h => absurd h (Int.not_le.2 HR.out.2.2.1), HR.out.1.1, fun _ => HR.out.1.2, by rw [HLe.out]; exact HD3.out, Int.le_refl _, HGR3.out, HZ3.out⟩
        · have d4 : ((rd : Int) == 0) = false := by rw [beq_eq_false_iff_ne]; omega
          clear hrd0
          go_wp2
          go_ret
          exact ⟨r2, (kN : Int) + 1, s2, rfl, fun h => absurd h (Int.not_le.2 HR.out.2.2.1), HR.out.2.1.1, fun _ => HR.out.2.1.2, by rw [HLe.out]; exact HD3.out, Int.le_refl _, HGR3.out, HZ3.out⟩
      · have d3 : decide (n ≤ 256) = false := by simpa using h256
        clear h256
        go_wp2
        go_ret
        exact ⟨r2, (kN : Int) + 1, s2, rfl, fun h => absurd h (Int.not_le.2 HR.out.2.2.1), HR.out.2.1.1, fun _ => HR.out.2.1.2, by rw [HLe.out]; exact HD3.out, Int.le_refl _, HGR3.out, HZ3.out⟩
/-- what a deck deals: behind it there is a deck, and all other blocks are as they were -/
def Dealt (d c : Nat) (w w' : World) : Prop := Deck w' d (c + 1) ∧ w.grownBy w' (some d) ∧ w'.heap.size = w.heap.size
theorem deck_draw {d c : Nat} {n : Int} {w : World} (h : Deck w d c) (hc : c < 1000000) :
    Calls Try.prog 14 #[.pointer (some ⟨d, 0, none⟩), .int .i64 n] w fun e w' => ∃ r : Int, e = .returned (.int .i64 r) ∧ ((n ≤ 1 → r = 0) ∧ 0 ≤ r ∧ (1 < n → r < n)) ∧ Dealt d c w w' := by
  obtain ⟨cv, l, k, s, h, hk⟩ := h
  refine (draw_any h (by omega)).mono ?_
  rintro e w' ⟨r, k', s', rfl, h1, h2, h3, h4, h5, h6, h7⟩
  exact ⟨r, rfl, ⟨h1, h2, h3⟩, ⟨cv, l, k', s', h4, by omega⟩, h6, h7⟩
set_option maxRecDepth 20000 in
set_option maxHeartbeats 1000000 in
theorem deck_between {d c : Nat} {a b : Int} {w : World} (h : Deck w d c) (hc : c < 1000000) (ha : -1000000 ≤ a ∧ a ≤ 1000000) (hb : -1000000 ≤ b ∧ b ≤ 1000000) (hab : a ≤ b) :
    Calls Try.prog 15 #[.pointer (some ⟨d, 0, none⟩), .int .i64 a, .int .i64 b] w fun e w' => ∃ r : Int, e = .returned (.int .i64 r) ∧ (a ≤ r ∧ r ≤ b) ∧ Dealt d c w w' := by
  have CD := Lib.hid (deck_draw (n := b - a + 1) h hc)
  have e1 : IntKind.i64.wrap (b - a) = b - a := IntWalk.i64_in _ (by omega)
  have e2 : IntKind.i64.wrap (b - a + 1) = b - a + 1 := IntWalk.i64_in _ (by omega)
  have HAB := Lib.hid (And.intro hab (And.intro ha hb))
  clear ha hb hab hc
  go_enter Try.func15, Try.ntmps15
  go_wp2_with fail
  refine CD.out.mono ?_
  rintro e w' ⟨r, rfl, hr, hd⟩
  have hra : 0 ≤ r ∧ a + r ≤ b := by
    have h1 := HAB.out.1
    by_cases e : b - a + 1 ≤ 1
    · have := hr.1 e; omega
    · have := hr.2.2 (by omega); omega
  have e3 : IntKind.i64.wrap (a + r) = a + r := IntWalk.i64_in _ (by have := HAB.out; omega)
  have HR := Lib.hid (And.intro hra hd)
  clear hr hra hd CD e1 e2
  go_wp2
  go_ret
  exact ⟨a + r, rfl, by have := HR.out.1; omega, HR.out.2⟩
set_option maxRecDepth 20000 in
set_option maxHeartbeats 1000000 in
theorem deck_coin {d c : Nat} {n : Int} {w : World} (h : Deck w d c) (hc : c < 1000000) :
    Calls Try.prog 16 #[.pointer (some ⟨d, 0, none⟩), .int .i64 n] w fun e w' => ∃ b : Bool, e = .returned (.bool b) ∧ Dealt d c w w' := by
  have CD := Lib.hid (deck_draw (n := n) h hc)
  clear hc
  go_enter Try.func16, Try.ntmps16
  go_wp2_with fail
  refine CD.out.mono ?_
  rintro e w' ⟨r, rfl, hr, hd⟩
  have HD := Lib.hid hd
  clear hr hd CD
  obtain ⟨b, hb⟩ : ∃ b, (r == 0) = b := ⟨_, rfl⟩
  go_wp2
  go_ret
  exact ⟨b, by rfl, HD.out⟩
end Go.Proofs.Ytohjinbgbfggcaa
