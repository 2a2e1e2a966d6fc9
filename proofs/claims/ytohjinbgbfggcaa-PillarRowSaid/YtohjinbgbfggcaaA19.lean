/-
  Parts of the proof, in the order in which they build: ExA, LwA, AwA.
-/
import Derived.Test.YtohjinbgbfggcaaA10
import Derived.Test.YtohjinbgbfggcaaA13
import Derived.Test.YtohjinbgbfggcaaA14
import Derived.Test.YtohjinbgbfggcaaA17
import Derived.Test.YtohjinbgbfggcaaA18
import Derived.Test.YtohjinbgbfggcaaA9
import Derived.Test.YtohjinbgbfggcaaA7
set_option linter.unusedVariables false
set_option linter.unusedSimpArgs false
/-
  The chapter's examples: what the functions answer there. No program in sight.
-/
namespace Go.Proofs.Ytohjinbgbfggcaa
open Go.RowKit Go.Shelf
open Lim

/-- the profile of example 1 -/
def hill (m : Int) : Pf := ⟨[0, 100, 200, 300], [(100, 100), (150, m), (120, 120), (100, 100)], 50, 0, 0⟩
/-- the roll of example 4 -/
def book : List (Int × Int) := [(100, 110), (50, 50), (100, 100)]
def fnd (n : Int) : Rd := ⟨book, [(150, 155)], [-1, n]⟩
def wrg : Rd := ⟨book, [(120, 130), (30, 40)], [-1, -1, -1]⟩
theorem sees02 : seesAns (hill 160) 0 2 = .tuple #[.bool true, .bool false, .int .i64 0] := by kernel_rfl
theorem sees13 : seesAns (hill 160) 1 3 = .tuple #[.bool true, .bool true, .int .i64 0] := by kernel_rfl
theorem sees03 : seesAns (hill 160) 0 3 = .tuple #[.bool false, .bool false, .int .i64 0] := by kernel_rfl
theorem tall02 : tallAns (hill 160) 0 2 = .tuple #[.int .i64 51, .int .i64 0] := by kernel_rfl
theorem tall03 : tallAns (hill 160) 0 3 = .tuple #[.int .i64 61, .int .i64 0] := by kernel_rfl
theorem err160 : (hill 160).err = 0 := by kernel_rfl
theorem err159 : (hill 159).err = 0 := by kernel_rfl
theorem best160 : IsBest 4 (hill 160).sure (-1) 3 0 [0, 1, 3] := by
  refine ⟨.cons (by decide) (by decide) (by kernel_rfl) (by decide) (.cons (by decide) (by decide) (by kernel_rfl) (by decide) .one), fun L' h => ?_⟩
  cases h with
  | @cons _ j L h1 h2 h3 _ hc =>
    have hj : j = 1 ∨ j = 2 ∨ j = 3 := by omega
    rcases hj with rfl | rfl | rfl
    · cases hc with
      | @cons _ k L2 g1 g2 g3 _ gc =>
        have hk : k = 2 ∨ k = 3 := by omega
        rcases hk with rfl | rfl
        · left
          cases gc with
          | @cons _ x L3 f1 f2 f3 _ fc => have := fc.pos; simp only [List.length_cons, List.length_nil]; omega
        · rw [gc.at_end rfl]; exact .inr ⟨rfl, lexLe.refl _⟩
    · exact absurd h3 (by rw [show (hill 160).sure 0 2 = false by kernel_rfl]; decide)
    · exact absurd h3 (by rw [show (hill 160).sure 0 3 = false by kernel_rfl]; decide)
theorem proof160 : Proof 4 (hill 160).sure [0, 1, 2, 2] := by
  have h : ∀ j, j < 4 → ∀ i, i < j → (hill 160).sure i j = true → ([0, 1, 2, 2] : List Int).getD j 0 ≤ ([0, 1, 2, 2] : List Int).getD i 0 + 1 := by decide
  exact fun i j h1 h2 h3 => h j h2 i h1 h3
theorem mend159 {L : List Nat} (h : IsBest 4 (hill 159).sure 1 3 0 L) : L = [0, 2, 3] := by
  refine h.unique ⟨.cons (by decide) (by decide) (by kernel_rfl) (by decide) (.cons (by decide) (by decide) (by kernel_rfl) (by decide) .one), fun L' h => ?_⟩
  cases h with
  | @cons _ j L h1 h2 h3 _ hc =>
    have hj : j = 1 ∨ j = 2 ∨ j = 3 := by omega
    rcases hj with rfl | rfl | rfl
    · cases hc with
      | cons _ _ _ h4 _ => exact absurd rfl h4
    · cases hc with
      | @cons _ k L2 g1 g2 g3 _ gc =>
        obtain rfl : k = 3 := by omega
        rw [gc.at_end rfl]; exact .inr ⟨rfl, lexLe.refl _⟩
    · exact absurd h3 (by rw [show (hill 159).sure 0 3 = false by kernel_rfl]; decide)
theorem mend160 {L : List Nat} : ¬ Ch 4 (hill 160).sure 1 3 0 L := fun h => by
  cases h with
  | @cons _ j L h1 h2 h3 _ hc =>
    have hj : j = 1 ∨ j = 2 ∨ j = 3 := by omega
    rcases hj with rfl | rfl | rfl
    · cases hc with
      | cons _ _ _ h4 _ => exact absurd rfl h4
    · exact absurd h3 (by rw [show (hill 160).sure 0 2 = false by kernel_rfl]; decide)
    · exact absurd h3 (by rw [show (hill 160).sure 0 3 = false by kernel_rfl]; decide)
theorem nums1 : (fnd (-1)).err = 0 ∧ nums (fnd (-1)) 0 = [0, 1] ∧ nums (fnd (-1)) 1 = [2, 3] := ⟨by kernel_rfl, by kernel_rfl, by kernel_rfl⟩
theorem reads1 : readAns (fnd 3) = .tuple #[.int .i64 1, .int .i64 0] := by kernel_rfl
theorem wrong1 : wrg.err = 0 ∧ total wrg = 0 ∧ wrongTo wrg 3 = [1] := ⟨by kernel_rfl, by kernel_rfl, by kernel_rfl⟩
end Go.Proofs.Ytohjinbgbfggcaa
/-
  What the statements of layer 6 use: profiles of their own, profiles that are compared: the contracts.
-/
namespace Go.Proofs.Ytohjinbgbfggcaa
open Go.RowKit Go.Shelf
open Lim
attribute [local go_sem] Oper.semAt_some

theorem results_mid {P : Program} {fn : Func} {p : Tmp} {ty : TypeId} (h : fn.results = #[.cell p ty]) (tmps : Array Value) (w : World) (b o : Nat) (cs : List Value) (d : TypeDesc)
    (hp : tmps.getD p undef = .pointer (some ⟨b, o, none⟩)) (hc : w.rangeAt b o cs) (hu : P.underlying ty = some d) (hd : d.isRow = true) (hi : (P.info? ty).map (·.size) = some cs.length) :
    (results fn tmps).run P w = .ok (.agg cs.toArray) w := by
  have hp' : tmps[p]?.getD undef = .pointer (some ⟨b, o, none⟩) := by simpa using hp
  simp [results, h, hp', asAddr, run_loadVar_mid w b o ty cs d hc hu hd hi]
theorem Try.infoProf : (Try.prog.info? 30).map (·.size) = some 5 := by kernel_rfl
/-- five cells are written -/
theorem five_there {W : World} {q : Nat} (h : ∀ j, j < 5 → (W.cell? ⟨q, j, none⟩).isSome = true ∧ W.frozen? ⟨q, j, none⟩ = false) : W.there q 0 5 := fun j hj => by rw [Nat.zero_add]; exact h j hj
theorem five_range {W : World} {q : Nat} {a b c d e : Value} (h0 : W.cell? ⟨q, 0, none⟩ = some a) (h1 : W.cell? ⟨q, 1, none⟩ = some b) (h2 : W.cell? ⟨q, 2, none⟩ = some c) (h3 : W.cell? ⟨q, 3, none⟩ = some d) (h4 : W.cell? ⟨q, 4, none⟩ = some e) : W.rangeAt q 0 [a, b, c, d, e] := fun j v hv => by
  rw [Nat.zero_add]
  match j with
  | 0 => rw [h0]; simpa using hv
  | 1 => rw [h1]; simpa using hv
  | 2 => rw [h2]; simpa using hv
  | 3 => rw [h3]; simpa using hv
  | 4 => rw [h4]; simpa using hv
  | j + 5 => simp at hv
theorem five_of_there {W : World} {q : Nat} (h : W.there q 0 5) : (∃ u, W.cell? ⟨q, 0, none⟩ = some u) ∧ (∃ u, W.cell? ⟨q, 1, none⟩ = some u) ∧ (∃ u, W.cell? ⟨q, 2, none⟩ = some u) ∧ (∃ u, W.cell? ⟨q, 3, none⟩ = some u) ∧ (∃ u, W.cell? ⟨q, 4, none⟩ = some u) ∧
    W.frozen? ⟨q, 0, none⟩ = false ∧ W.frozen? ⟨q, 1, none⟩ = false ∧ W.frozen? ⟨q, 2, none⟩ = false ∧ W.frozen? ⟨q, 3, none⟩ = false ∧ W.frozen? ⟨q, 4, none⟩ = false := by
  have c : ∀ j, j < 5 → ∃ u, W.cell? ⟨q, j, none⟩ = some u := fun j hj => by have := (h j hj).1; rw [Nat.zero_add] at this; exact Option.isSome_iff_exists.1 this
  have f : ∀ j, j < 5 → W.frozen? ⟨q, j, none⟩ = false := fun j hj => by have := (h j hj).2; rwa [Nat.zero_add] at this
  exact ⟨c 0 (by omega), c 1 (by omega), c 2 (by omega), c 3 (by omega), c 4 (by omega), f 0 (by omega), f 1 (by omega), f 2 (by omega), f 3 (by omega), f 4 (by omega)⟩
theorem RS.one {B n : Nat} {W : World} {v : Value} {xs : List Value} (h : RS B W v n xs) : v.oneCell' = true := by obtain ⟨a, c, rfl, -⟩ := h; rfl
end Go.Proofs.Ytohjinbgbfggcaa
/-
  The chapter's examples as the law makes them: the contracts of span, Hill, Book, found.
-/
namespace Go.Proofs.Ytohjinbgbfggcaa
open Go.RowKit Go.Shelf
open Lim
attribute [local go_sem] Oper.semAt_some

theorem RS.on {w w' : World} {v : Value} {n : Nat} {xs : List Value} (h : RS w.heap.size w v n xs) (hb : Below w.heap.size w w') : RS w'.heap.size w' v n xs := (h.below hb).mono hb.size
theorem rs_new {w W : World} {t n : Nat} (X : List Value) (h : W = w.alloc (.cells X.toArray t)) : RS W.heap.size W (.slice (some ⟨w.heap.size, 0, none⟩) n n) n X := by
  subst h
  refine ⟨_, _, rfl, fun _ => ⟨_, _, rfl, by simp, fun j u hj => ?_⟩⟩
  rw [Nat.zero_add, World.cell?_alloc_new, List.getElem?_toArray]
  exact hj
theorem size_spanT : (Try.prog.info? 28).map (·.size) = some 2 := by kernel_rfl
theorem range_new (w : World) (cs : List Value) (t : TypeId) : (w.alloc (.cells cs.toArray t)).rangeAt w.heap.size 0 cs := by
  intro j v hj
  rw [Nat.zero_add, World.cell?_alloc_new]
  simpa using hj
theorem rs_off {B n c : Nat} {W : World} {a : Addr} {xs vs : List Value} {g o : Nat} (h : RS B W (.slice (some a) n c) n xs) (hne : a.block ≠ g) : RS B (W.setCells g o vs) (.slice (some a) n c) n xs := by
  obtain ⟨a', c', e, h⟩ := h
  cases e
  refine ⟨_, _, rfl, fun hx => ?_⟩
  obtain ⟨b, off, e, h2, h3⟩ := h hx
  cases e
  exact ⟨b, off, rfl, h2, fun j u hj => by rw [World.cell?_setCells_out g vs o W ⟨b, off + j, none⟩ (fun e => absurd e hne)]; exact h3 j u hj⟩
set_option maxHeartbeats 400000 in
theorem span_any (lo hi : Int) (w : World) : Calls Try.prog 10 #[.int .i64 lo, .int .i64 hi] w fun e w' => e = .returned (.agg #[.int .i64 lo, .int .i64 hi]) ∧ Below w.heap.size w w' := by
  go_enter Try.func10, Try.ntmps10
  go_wp2
  refine bodyPost_ret (v := .agg #[.int .i64 lo, .int .i64 hi]) (results_mid rfl _ _ w.heap.size 0 [.int .i64 lo, .int .i64 hi] _ rfl (range_new w [.int .i64 lo, .int .i64 hi] 28) Try.underlying28 rfl size_spanT) rfl ?_
  exact ⟨rfl, (Below.refl _ w).alloc (Nat.le_refl _) _⟩
set_option maxRecDepth 20000 in
set_option maxHeartbeats 1000000 in
theorem Hill_any (mo : Int) (w : World) : Calls Try.prog 27 #[.int .i64 mo] w fun e w' => ∃ av gv, e = .returned (.agg #[av, gv, .int .i64 50, .int .i64 0, .int .i64 0]) ∧ RS w'.heap.size w' av 4 (ints (hill mo).ats) ∧ RS w'.heap.size w' gv 4 (spans (hill mo).gr) ∧ Below w.heap.size w w' := by
  have HM : Hid (Below w.heap.size w ((w.alloc (.cells #[.slice none 0 0, .slice none 0 0, .int .i64 0, .int .i64 0, .int .i64 0] 30)).alloc (.cells #[.int .i64 0, .int .i64 100, .int .i64 200, .int .i64 300] 3)) ∧ (∀ j, j < 5 → (((w.alloc (.cells #[.slice none 0 0, .slice none 0 0, .int .i64 0, .int .i64 0, .int .i64 0] 30)).alloc (.cells #[.int .i64 0, .int .i64 100, .int .i64 200, .int .i64 300] 3)).cell? ⟨w.heap.size, j, none⟩).isSome = true ∧ ((w.alloc (.cells #[.slice none 0 0, .slice none 0 0, .int .i64 0, .int .i64 0, .int .i64 0] 30)).alloc (.cells #[.int .i64 0, .int .i64 100, .int .i64 200, .int .i64 300] 3)).frozen? ⟨w.heap.size, j, none⟩ = false) ∧ RS ((w.alloc (.cells #[.slice none 0 0, .slice none 0 0, .int .i64 0, .int .i64 0, .int .i64 0] 30)).alloc (.cells #[.int .i64 0, .int .i64 100, .int .i64 200, .int .i64 300] 3)).heap.size ((w.alloc (.cells #[.slice none 0 0, .slice none 0 0, .int .i64 0, .int .i64 0, .int .i64 0] 30)).alloc (.cells #[.int .i64 0, .int .i64 100, .int .i64 200, .int .i64 300] 3)) (.slice (some ⟨w.heap.size + 1, 0, none⟩) 4 4) 4 (ints (hill mo).ats)) := Lib.hid (by
    refine ⟨((Below.refl _ w).alloc (Nat.le_refl _) _).alloc (by simp) _, fun j hj => ?_, ?_⟩
    · rcases (by omega : j = 0 ∨ j = 1 ∨ j = 2 ∨ j = 3 ∨ j = 4) with rfl | rfl | rfl | rfl | rfl <;> constructor <;> simp [go_sem]
    · have := rs_new (w := w.alloc (.cells #[.slice none 0 0, .slice none 0 0, .int .i64 0, .int .i64 0, .int .i64 0] 30)) (t := 3) (n := 4) (ints (hill mo).ats) rfl
      have e : (w.alloc (.cells #[.slice none 0 0, .slice none 0 0, .int .i64 0, .int .i64 0, .int .i64 0] 30)).heap.size = w.heap.size + 1 := by simp
      rw [e] at this
      exact this)
  go_enter Try.func27, Try.ntmps27
  go_wp2_with fail
  obtain ⟨q, hq⟩ : ∃ q, q = w.heap.size := ⟨_, rfl⟩
  have HQ := Lib.hid hq
  have HM2 : Hid (Below w.heap.size w ((w.alloc (.cells #[.slice none 0 0, .slice none 0 0, .int .i64 0, .int .i64 0, .int .i64 0] 30)).alloc (.cells #[.int .i64 0, .int .i64 100, .int .i64 200, .int .i64 300] 3))) := Lib.hid HM.out.1
  have HM3 := Lib.hid HM.out.2
  rw [← hq] at HM3
  simp only [← hq]
  clear hq HM
  generalize (w.alloc (.cells #[.slice none 0 0, .slice none 0 0, .int .i64 0, .int .i64 0, .int .i64 0] 30)).alloc (.cells #[.int .i64 0, .int .i64 100, .int .i64 200, .int .i64 300] 3) = w1 at HM2 HM3 ⊢
  have HB1 : Hid (Below w1.heap.size w1 w1) := Lib.hid (Below.refl _ _)
  refine (span_any _ _ _).mono ?_
  rintro e w2 ⟨rfl, hb2⟩
  have HB2 : Hid (Below w1.heap.size w1 w2) := Lib.hid (HB1.out.trans (hb2.mono HB1.out.size))
  clear hb2 HB1
  go_wp2_with fail
  refine (span_any _ _ _).mono ?_
  rintro e w3 ⟨rfl, hb3⟩
  have HB3 : Hid (Below w1.heap.size w1 w3) := Lib.hid (HB2.out.trans (hb3.mono HB2.out.size))
  clear hb3 HB2
  go_wp2_with fail
  refine (span_any _ _ _).mono ?_
  rintro e w4 ⟨rfl, hb4⟩
  have HB4 : Hid (Below w1.heap.size w1 w4) := Lib.hid (HB3.out.trans (hb4.mono HB3.out.size))
  clear hb4 HB3
  go_wp2_with fail
  refine (span_any _ _ _).mono ?_
  rintro e w5 ⟨rfl, hb5⟩
  have HB5 : Hid (Below w1.heap.size w1 w5) := Lib.hid (HB4.out.trans (hb5.mono HB4.out.size))
  clear hb5 HB4
  have hq1 : q + 1 < w1.heap.size ∧ w.heap.size ≤ q := by
    obtain ⟨a, c, e, h⟩ := HM3.out.2
    cases e
    obtain ⟨b, o, e, h2, -⟩ := h (by simp [ints, hill])
    cases e
    exact ⟨h2, by rw [HQ.out]; exact Nat.le_refl _⟩
  obtain ⟨⟨u0, z0⟩, ⟨u1, z1⟩, ⟨u2, z2⟩, ⟨u3, z3⟩, ⟨u4, z4⟩, y0, y1, y2, y3, y4⟩ := five_of_there (W := w5) (q := q) (five_there fun j hj => by
    have h := HM3.out.1 j hj
    refine ⟨?_, ?_⟩
    · rw [HB5.out.cell (p := ⟨q, j, none⟩) (by show q < _; omega)]; exact h.1
    · rw [HB5.out.frozen (p := ⟨q, j, none⟩) (by show q < _; omega)]; exact h.2)
  have hlt5 : q < w5.heap.size := by have := HB5.out.size; omega
  have HLT := Lib.hid (And.intro hq1 hlt5)
  go_wp2_with fail
  have HF : Hid ((((((w5.setCell ⟨q, 0, none⟩ (.slice (some ⟨q + 1, 0, none⟩) 4 4)).setCell ⟨q, 1, none⟩ (.slice (some ⟨w5.heap.size, 0, none⟩) 4 4)).setCell ⟨q, 2, none⟩ (.int .i64 50)).setCell ⟨q, 3, none⟩ (.int .i64 0)).setCell ⟨q, 4, none⟩ (.int .i64 0)).rangeAt q 0 [.slice (some ⟨q + 1, 0, none⟩) 4 4, .slice (some ⟨w5.heap.size, 0, none⟩) 4 4, .int .i64 50, .int .i64 0, .int .i64 0] ∧ RS (((((w5.setCell ⟨q, 0, none⟩ (.slice (some ⟨q + 1, 0, none⟩) 4 4)).setCell ⟨q, 1, none⟩ (.slice (some ⟨w5.heap.size, 0, none⟩) 4 4)).setCell ⟨q, 2, none⟩ (.int .i64 50)).setCell ⟨q, 3, none⟩ (.int .i64 0)).setCell ⟨q, 4, none⟩ (.int .i64 0)).heap.size (((((w5.setCell ⟨q, 0, none⟩ (.slice (some ⟨q + 1, 0, none⟩) 4 4)).setCell ⟨q, 1, none⟩ (.slice (some ⟨w5.heap.size, 0, none⟩) 4 4)).setCell ⟨q, 2, none⟩ (.int .i64 50)).setCell ⟨q, 3, none⟩ (.int .i64 0)).setCell ⟨q, 4, none⟩ (.int .i64 0)) (.slice (some ⟨q + 1, 0, none⟩) 4 4) 4 (ints (hill mo).ats) ∧ (((((w5.setCell ⟨q, 0, none⟩ (.slice (some ⟨q + 1, 0, none⟩) 4 4)).setCell ⟨q, 1, none⟩ (.slice (some ⟨w5.heap.size, 0, none⟩) 4 4)).setCell ⟨q, 2, none⟩ (.int .i64 50)).setCell ⟨q, 3, none⟩ (.int .i64 0)).setCell ⟨q, 4, none⟩ (.int .i64 0)).heap.size = w5.heap.size ∧ Below w.heap.size w (((((w5.setCell ⟨q, 0, none⟩ (.slice (some ⟨q + 1, 0, none⟩) 4 4)).setCell ⟨q, 1, none⟩ (.slice (some ⟨w5.heap.size, 0, none⟩) 4 4)).setCell ⟨q, 2, none⟩ (.int .i64 50)).setCell ⟨q, 3, none⟩ (.int .i64 0)).setCell ⟨q, 4, none⟩ (.int .i64 0))) := Lib.hid (by
    have hz : (w5.setCells q 0 [.slice (some ⟨q + 1, 0, none⟩) 4 4, .slice (some ⟨w5.heap.size, 0, none⟩) 4 4, .int .i64 50, .int .i64 0, .int .i64 0]).heap.size = w5.heap.size := size_setCells _ _ _ _
    have hth : w5.there q 0 5 := five_there fun j hj => by
      rcases (by omega : j = 0 ∨ j = 1 ∨ j = 2 ∨ j = 3 ∨ j = 4) with rfl | rfl | rfl | rfl | rfl
      · exact ⟨by rw [z0]; rfl, y0⟩
      · exact ⟨by rw [z1]; rfl, y1⟩
      · exact ⟨by rw [z2]; rfl, y2⟩
      · exact ⟨by rw [z3]; rfl, y3⟩
      · exact ⟨by rw [z4]; rfl, y4⟩
    refine ⟨World.rangeAt_setCells_same w5 q 0 [.slice (some ⟨q + 1, 0, none⟩) 4 4, .slice (some ⟨w5.heap.size, 0, none⟩) 4 4, .int .i64 50, .int .i64 0, .int .i64 0] hth, ?_, hz, below_setCells' HLT.out.1.2 [.slice (some ⟨q + 1, 0, none⟩) 4 4, .slice (some ⟨w5.heap.size, 0, none⟩) 4 4, .int .i64 50, .int .i64 0, .int .i64 0] 0 w5 (HM2.out.trans (HB5.out.mono HM2.out.size))⟩
    show RS (w5.setCells q 0 [.slice (some ⟨q + 1, 0, none⟩) 4 4, .slice (some ⟨w5.heap.size, 0, none⟩) 4 4, .int .i64 50, .int .i64 0, .int .i64 0]).heap.size (w5.setCells q 0 [.slice (some ⟨q + 1, 0, none⟩) 4 4, .slice (some ⟨w5.heap.size, 0, none⟩) 4 4, .int .i64 50, .int .i64 0, .int .i64 0]) _ _ _
    rw [hz]
    exact rs_off (RS.on HM3.out.2 HB5.out) (by show q + 1 ≠ q; omega))
  generalize ((((w5.setCell ⟨q, 0, none⟩ (.slice (some ⟨q + 1, 0, none⟩) 4 4)).setCell ⟨q, 1, none⟩ (.slice (some ⟨w5.heap.size, 0, none⟩) 4 4)).setCell ⟨q, 2, none⟩ (.int .i64 50)).setCell ⟨q, 3, none⟩ (.int .i64 0)).setCell ⟨q, 4, none⟩ (.int .i64 0) = w9 at HF ⊢
  have h9 := HF.out
  refine bodyPost_ret (v := .agg #[.slice (some ⟨q + 1, 0, none⟩) 4 4, .slice (some ⟨w5.heap.size, 0, none⟩) 4 4, .int .i64 50, .int .i64 0, .int .i64 0]) (results_mid rfl _ _ q 0 [.slice (some ⟨q + 1, 0, none⟩) 4 4, .slice (some ⟨w5.heap.size, 0, none⟩) 4 4, .int .i64 50, .int .i64 0, .int .i64 0] _ rfl (World.rangeAt_alloc h9.1 _) Try.underlying30 rfl Try.infoProf) rfl ?_
  refine ⟨_, _, rfl, RS.on h9.2.1 ((Below.refl _ w9).alloc (Nat.le_refl _) _), ?_, h9.2.2.2.alloc h9.2.2.2.size _⟩
  rw [← h9.2.2.1]
  exact rs_new (n := 4) (spans (hill mo).gr) rfl
theorem infoRoll : (Try.prog.info? 87).map (·.size) = some 1 := by kernel_rfl
theorem infoFinds : (Try.prog.info? 90).map (·.size) = some 2 := by kernel_rfl
theorem one_range {W : World} {q : Nat} {a : Value} (h0 : W.cell? ⟨q, 0, none⟩ = some a) : W.rangeAt q 0 [a] := fun j v hv => by
  rw [Nat.zero_add]
  match j with
  | 0 => rw [h0]; simpa using hv
  | j + 1 => simp at hv
theorem two_range {W : World} {q : Nat} {a b : Value} (h0 : W.cell? ⟨q, 0, none⟩ = some a) (h1 : W.cell? ⟨q, 1, none⟩ = some b) : W.rangeAt q 0 [a, b] := fun j v hv => by
  rw [Nat.zero_add]
  match j with
  | 0 => rw [h0]; simpa using hv
  | 1 => rw [h1]; simpa using hv
  | j + 2 => simp at hv
set_option maxRecDepth 20000 in
set_option maxHeartbeats 1000000 in
theorem Book_any (w : World) : Calls Try.prog 34 #[] w fun e w' => ∃ b, e = .returned (.agg #[.slice (some ⟨b, 0, none⟩) 3 3]) ∧ RS w'.heap.size w' (.slice (some ⟨b, 0, none⟩) 3 3) 3 (spans book) ∧ Below w.heap.size w w' := by
  have HM : Hid (Below w.heap.size w (w.alloc (.cells #[.slice none 0 0] 87)) ∧ (w.alloc (.cells #[.slice none 0 0] 87)).cell? ⟨w.heap.size, 0, none⟩ = some (.slice none 0 0) ∧ (w.alloc (.cells #[.slice none 0 0] 87)).frozen? ⟨w.heap.size, 0, none⟩ = false) := Lib.hid ⟨(Below.refl _ w).alloc (Nat.le_refl _) _, by simp [go_sem], by simp [go_sem]⟩
  go_enter Try.func34, Try.ntmps34
  go_wp2_with fail
  obtain ⟨q, hq⟩ : ∃ q, q = w.heap.size := ⟨_, rfl⟩
  have HQ := Lib.hid hq
  have HM2 : Hid (Below w.heap.size w (w.alloc (.cells #[.slice none 0 0] 87))) := Lib.hid HM.out.1
  have HM3 := Lib.hid HM.out.2
  rw [← hq] at HM3
  simp only [← hq]
  clear hq HM
  generalize w.alloc (.cells #[.slice none 0 0] 87) = w1 at HM2 HM3 ⊢
  have HB1 : Hid (Below w1.heap.size w1 w1) := Lib.hid (Below.refl _ _)
  refine (span_any _ _ _).mono ?_
  rintro e w2 ⟨rfl, hb2⟩
  have HB2 : Hid (Below w1.heap.size w1 w2) := Lib.hid (HB1.out.trans (hb2.mono HB1.out.size))
  clear hb2 HB1
  go_wp2_with fail
  refine (span_any _ _ _).mono ?_
  rintro e w3 ⟨rfl, hb3⟩
  have HB3 : Hid (Below w1.heap.size w1 w3) := Lib.hid (HB2.out.trans (hb3.mono HB2.out.size))
  clear hb3 HB2
  go_wp2_with fail
  refine (span_any _ _ _).mono ?_
  rintro e w4 ⟨rfl, hb4⟩
  have HB4 : Hid (Below w1.heap.size w1 w4) := Lib.hid (HB3.out.trans (hb4.mono HB3.out.size))
  clear hb4 HB3
  have hlt1 : q < w1.heap.size := World.block_lt_of_cell? _ _ HM3.out.1
  have z0 := HB4.out.on HM3.out.1
  have y0 : w4.frozen? ⟨q, 0, none⟩ = false := (HB4.out.frozen (p := ⟨q, 0, none⟩) hlt1).trans HM3.out.2
  have hlt5 : q < w4.heap.size := by have := HB4.out.size; omega
  go_wp2_with fail
  have HF : Hid ((w4.setCell ⟨q, 0, none⟩ (.slice (some ⟨w4.heap.size, 0, none⟩) 3 3)).cell? ⟨q, 0, none⟩ = some (.slice (some ⟨w4.heap.size, 0, none⟩) 3 3) ∧ (w4.setCell ⟨q, 0, none⟩ (.slice (some ⟨w4.heap.size, 0, none⟩) 3 3)).heap.size = w4.heap.size ∧ Below w.heap.size w (w4.setCell ⟨q, 0, none⟩ (.slice (some ⟨w4.heap.size, 0, none⟩) 3 3))) := Lib.hid ⟨World.cell?_setCell_same' _ _ _ (by rw [z0]; rfl), by simp [World.setCell], (HM2.out.trans (HB4.out.mono HM2.out.size)).setCell (p := ⟨q, 0, none⟩) (by rw [HQ.out]; exact Nat.le_refl _) _⟩
  generalize w4.setCell ⟨q, 0, none⟩ (.slice (some ⟨w4.heap.size, 0, none⟩) 3 3) = w9 at HF ⊢
  have h9 := HF.out
  refine bodyPost_ret (v := .agg #[.slice (some ⟨w4.heap.size, 0, none⟩) 3 3]) (results_mid rfl _ _ q 0 [.slice (some ⟨w4.heap.size, 0, none⟩) 3 3] _ rfl (World.rangeAt_alloc (one_range h9.1) _) Try.underlying87 rfl infoRoll) rfl ?_
  refine ⟨_, rfl, ?_, h9.2.2.alloc h9.2.2.size _⟩
  rw [← h9.2.1]
  exact rs_new (n := 3) (spans book) rfl
set_option maxRecDepth 20000 in
set_option maxHeartbeats 1000000 in
theorem found_any (lo hi n : Int) (w : World) : Calls Try.prog 35 #[.int .i64 lo, .int .i64 hi, .int .i64 n] w fun e w' => ∃ b c, e = .returned (.agg #[.slice (some ⟨b, 0, none⟩) 1 1, .slice (some ⟨c, 0, none⟩) 2 2]) ∧ RS w'.heap.size w' (.slice (some ⟨b, 0, none⟩) 1 1) 1 (spans [(lo, hi)]) ∧ RS w'.heap.size w' (.slice (some ⟨c, 0, none⟩) 2 2) 2 (ints [-1, n]) ∧ Below w.heap.size w w' := by
  have HM : Hid (Below w.heap.size w (w.alloc (.cells #[.slice none 0 0, .slice none 0 0] 90)) ∧ (w.alloc (.cells #[.slice none 0 0, .slice none 0 0] 90)).cell? ⟨w.heap.size, 0, none⟩ = some (.slice none 0 0) ∧ (w.alloc (.cells #[.slice none 0 0, .slice none 0 0] 90)).frozen? ⟨w.heap.size, 0, none⟩ = false ∧ (w.alloc (.cells #[.slice none 0 0, .slice none 0 0] 90)).cell? ⟨w.heap.size, 1, none⟩ = some (.slice none 0 0) ∧ (w.alloc (.cells #[.slice none 0 0, .slice none 0 0] 90)).frozen? ⟨w.heap.size, 1, none⟩ = false) := Lib.hid ⟨(Below.refl _ w).alloc (Nat.le_refl _) _, by simp [go_sem], by simp [go_sem], by simp [go_sem], by simp [go_sem]⟩
  go_enter Try.func35, Try.ntmps35
  go_wp2_with fail
  obtain ⟨q, hq⟩ : ∃ q, q = w.heap.size := ⟨_, rfl⟩
  have HQ := Lib.hid hq
  have HM2 : Hid (Below w.heap.size w (w.alloc (.cells #[.slice none 0 0, .slice none 0 0] 90))) := Lib.hid HM.out.1
  have HM3 := Lib.hid HM.out.2
  rw [← hq] at HM3
  simp only [← hq]
  clear hq HM
  generalize w.alloc (.cells #[.slice none 0 0, .slice none 0 0] 90) = w1 at HM2 HM3 ⊢
  refine (span_any _ _ _).mono ?_
  rintro e w2 ⟨rfl, hb2⟩
  have HB2 := Lib.hid hb2
  have hlt1 : q < w1.heap.size := World.block_lt_of_cell? _ _ HM3.out.1
  have z0 := hb2.on HM3.out.1
  have y0 : w2.frozen? ⟨q, 0, none⟩ = false := (hb2.frozen (p := ⟨q, 0, none⟩) hlt1).trans HM3.out.2.1
  have z1 := hb2.on HM3.out.2.2.1
  have y1 : w2.frozen? ⟨q, 1, none⟩ = false := (hb2.frozen (p := ⟨q, 1, none⟩) hlt1).trans HM3.out.2.2.2
  have hlt5 : q < w2.heap.size := by have := hb2.size; omega
  have HLT := Lib.hid hlt5
  clear hb2
  go_wp2_with fail
  have HF : Hid (((w2.setCell ⟨q, 0, none⟩ (.slice (some ⟨w2.heap.size, 0, none⟩) 1 1)).setCell ⟨q, 1, none⟩ (.slice (some ⟨w2.heap.size + 1, 0, none⟩) 2 2)).cell? ⟨q, 0, none⟩ = some (.slice (some ⟨w2.heap.size, 0, none⟩) 1 1) ∧ ((w2.setCell ⟨q, 0, none⟩ (.slice (some ⟨w2.heap.size, 0, none⟩) 1 1)).setCell ⟨q, 1, none⟩ (.slice (some ⟨w2.heap.size + 1, 0, none⟩) 2 2)).cell? ⟨q, 1, none⟩ = some (.slice (some ⟨w2.heap.size + 1, 0, none⟩) 2 2) ∧ ((w2.setCell ⟨q, 0, none⟩ (.slice (some ⟨w2.heap.size, 0, none⟩) 1 1)).setCell ⟨q, 1, none⟩ (.slice (some ⟨w2.heap.size + 1, 0, none⟩) 2 2)).heap.size = w2.heap.size ∧ Below w.heap.size w ((w2.setCell ⟨q, 0, none⟩ (.slice (some ⟨w2.heap.size, 0, none⟩) 1 1)).setCell ⟨q, 1, none⟩ (.slice (some ⟨w2.heap.size + 1, 0, none⟩) 2 2))) := Lib.hid ⟨by rw [setCell_offP _ _ (by omega)]; exact World.cell?_setCell_same' _ _ _ (by rw [z0]; rfl), World.cell?_setCell_same' _ _ _ (by rw [setCell_offP _ _ (by omega), z1]; rfl), by simp [World.setCell], ((HM2.out.trans (HB2.out.mono HM2.out.size)).setCell (p := ⟨q, 0, none⟩) (by rw [HQ.out]; exact Nat.le_refl _) _).setCell (p := ⟨q, 1, none⟩) (by rw [HQ.out]; exact Nat.le_refl _) _⟩
  generalize (w2.setCell ⟨q, 0, none⟩ (.slice (some ⟨w2.heap.size, 0, none⟩) 1 1)).setCell ⟨q, 1, none⟩ (.slice (some ⟨w2.heap.size + 1, 0, none⟩) 2 2) = w9 at HF ⊢
  have h9 := HF.out
  have hz2 : (w9.alloc (.cells (spans [(lo, hi)]).toArray 28)).heap.size = w2.heap.size + 1 := by simp [h9.2.2.1]
  have r1 := rs_new (w := w9) (n := 1) (t := 28) (spans [(lo, hi)]) rfl
  have r2 := rs_new (w := w9.alloc (.cells (spans [(lo, hi)]).toArray 28)) (n := 2) (t := 3) (ints [-1, n]) rfl
  rw [hz2] at r2
  rw [h9.2.2.1] at r1
  refine bodyPost_ret (v := .agg #[.slice (some ⟨w2.heap.size, 0, none⟩) 1 1, .slice (some ⟨w2.heap.size + 1, 0, none⟩) 2 2]) (results_mid rfl _ _ q 0 [.slice (some ⟨w2.heap.size, 0, none⟩) 1 1, .slice (some ⟨w2.heap.size + 1, 0, none⟩) 2 2] _ rfl (World.rangeAt_alloc (World.rangeAt_alloc (two_range h9.1 h9.2.1) _) _) Try.underlying90 rfl infoFinds) rfl ?_
  exact ⟨_, _, rfl, RS.on r1 ((Below.refl _ _).alloc (Nat.le_refl _) _), r2, (h9.2.2.2.alloc h9.2.2.2.size _).alloc (by rw [World.size_alloc]; have := h9.2.2.2.size; omega) _⟩
end Go.Proofs.Ytohjinbgbfggcaa
