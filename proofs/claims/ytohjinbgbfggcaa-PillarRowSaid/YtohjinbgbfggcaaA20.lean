/-
  Parts of the proof, in the order in which they build: AwB, AwC.
-/
import Derived.Test.YtohjinbgbfggcaaA19
import Derived.Test.YtohjinbgbfggcaaB19
set_option linter.unusedVariables false
set_option linter.unusedSimpArgs false
/-
  What the functions answer at the chapter's examples, as awake calls them.
-/
namespace Go.Proofs.Ytohjinbgbfggcaa
open Go.RowKit Go.Shelf
open Lim

theorem c_sees02 {av gv : Value} {w : World} (ha : RS w.heap.size w av 4 (ints (hill 160).ats)) (hg : RS w.heap.size w gv 4 (spans (hill 160).gr)) : Calls Try.prog 7 #[.agg #[av, gv, .int .i64 50, .int .i64 0, .int .i64 0], .int .i64 0, .int .i64 2] w fun e w' => e = .returned (.tuple #[.bool true, .bool false, .int .i64 0]) ∧ Below w.heap.size w w' := by
  have := Sees_any (p := hill 160) (i := 0) (j := 2) (Nat.le_refl _) ha hg
  rw [sees02] at this
  exact this
theorem c_sees13 {av gv : Value} {w : World} (ha : RS w.heap.size w av 4 (ints (hill 160).ats)) (hg : RS w.heap.size w gv 4 (spans (hill 160).gr)) : Calls Try.prog 7 #[.agg #[av, gv, .int .i64 50, .int .i64 0, .int .i64 0], .int .i64 1, .int .i64 3] w fun e w' => e = .returned (.tuple #[.bool true, .bool true, .int .i64 0]) ∧ Below w.heap.size w w' := by
  have := Sees_any (p := hill 160) (i := 1) (j := 3) (Nat.le_refl _) ha hg
  rw [sees13] at this
  exact this
theorem c_sees03 {av gv : Value} {w : World} (ha : RS w.heap.size w av 4 (ints (hill 160).ats)) (hg : RS w.heap.size w gv 4 (spans (hill 160).gr)) : Calls Try.prog 7 #[.agg #[av, gv, .int .i64 50, .int .i64 0, .int .i64 0], .int .i64 0, .int .i64 3] w fun e w' => e = .returned (.tuple #[.bool false, .bool false, .int .i64 0]) ∧ Below w.heap.size w w' := by
  have := Sees_any (p := hill 160) (i := 0) (j := 3) (Nat.le_refl _) ha hg
  rw [sees03] at this
  exact this
theorem c_tall02 {av gv : Value} {w : World} (ha : RS w.heap.size w av 4 (ints (hill 160).ats)) (hg : RS w.heap.size w gv 4 (spans (hill 160).gr)) : Calls Try.prog 31 #[.agg #[av, gv, .int .i64 50, .int .i64 0, .int .i64 0], .int .i64 0, .int .i64 2] w fun e w' => e = .returned (.tuple #[.int .i64 51, .int .i64 0]) ∧ Below w.heap.size w w' := by
  have := Tall_any (p := hill 160) (i := 0) (j := 2) (Nat.le_refl _) ha hg
  rw [tall02] at this
  exact this
theorem c_tall03 {av gv : Value} {w : World} (ha : RS w.heap.size w av 4 (ints (hill 160).ats)) (hg : RS w.heap.size w gv 4 (spans (hill 160).gr)) : Calls Try.prog 31 #[.agg #[av, gv, .int .i64 50, .int .i64 0, .int .i64 0], .int .i64 0, .int .i64 3] w fun e w' => e = .returned (.tuple #[.int .i64 61, .int .i64 0]) ∧ Below w.heap.size w w' := by
  have := Tall_any (p := hill 160) (i := 0) (j := 3) (Nat.le_refl _) ha hg
  rw [tall03] at this
  exact this
theorem c_few {av gv : Value} {w : World} (ha : RS w.heap.size w av 4 (ints (hill 160).ats)) (hg : RS w.heap.size w gv 4 (spans (hill 160).gr)) : Calls Try.prog 28 #[.agg #[av, gv, .int .i64 50, .int .i64 0, .int .i64 0]] w fun e w' => (∃ v, e = .returned (.tuple #[v, .int .i64 0]) ∧ RS w'.heap.size w' v 3 (ints [0, 1, 3])) ∧ Below w.heap.size w w' := by
  refine (Fewest_any (p := hill 160) (Nat.le_refl _) ha hg).mono ?_
  rintro e w' ⟨hb, h | h⟩
  · exact absurd err160 h.1
  · obtain ⟨-, v, L, rfl, ho, hL, -⟩ := h
    obtain rfl := hL.unique best160
    exact ⟨⟨v, rfl, RS.of_owns ho⟩, hb⟩
theorem c_prov {av gv v : Value} {w : World} (hv : RS w.heap.size w v 4 (ints [0, 1, 2, 2])) (ha : RS w.heap.size w av 4 (ints (hill 160).ats)) (hg : RS w.heap.size w gv 4 (spans (hill 160).gr)) : Calls Try.prog 29 #[.agg #[av, gv, .int .i64 50, .int .i64 0, .int .i64 0], v] w fun e w' => e = .returned (.tuple #[.int .i64 3, .int .i64 0]) ∧ Below w.heap.size w w' := by
  refine (Proves_any (p := hill 160) (l := [0, 1, 2, 2]) (Nat.le_refl _) ha hg hv (by decide)).mono ?_
  rintro e w' ⟨hb, r, er, rfl, h⟩
  rcases h with ⟨h, -⟩ | ⟨-, h, -⟩ | ⟨-, -, h, -⟩ | ⟨-, -, -, h, -⟩ | ⟨-, -, -, -, rfl, rfl⟩
  · exact absurd err160 h
  · exact absurd rfl h
  · exact absurd h (by rw [show inLev [0, 1, 2, 2] = true by kernel_rfl]; decide)
  · exact absurd proof160 h
  · exact ⟨rfl, hb⟩
theorem c_mend159 {av gv : Value} {vb : Nat} {w : World} (hv : RS w.heap.size w (.slice (some ⟨vb, 0, none⟩) 3 3) 3 (ints [0, 1, 3])) (ha : RS w.heap.size w av 4 (ints (hill 159).ats)) (hg : RS w.heap.size w gv 4 (spans (hill 159).gr)) : Calls Try.prog 32 #[.agg #[av, gv, .int .i64 50, .int .i64 0, .int .i64 0], .slice (some ⟨vb, 0, none⟩) 3 3, .int .i64 1] w fun e w' => (∃ v, e = .returned (.tuple #[v, .int .i64 0]) ∧ RS w'.heap.size w' v 3 (ints [0, 2, 3])) ∧ Below w.heap.size w w' := by
  refine (Mend_any (p := hill 159) (xs := [0, 1, 3]) (lost := 1) (Nat.le_refl _) ha hg hv (fun a c e => by cases e; exact Nat.le_refl _) (by decide)).mono ?_
  rintro e w' ⟨hb, v, er, R, rfl, ho, h⟩
  rcases h with ⟨h, -⟩ | ⟨-, h, -⟩ | ⟨-, -, h, -⟩ | ⟨-, -, -, h, -⟩ | ⟨-, -, -, -, h⟩
  · exact absurd err159 h
  · exact absurd h (by rw [show inAll (hill 159).n [0, 1, 3] = true by kernel_rfl]; decide)
  · exact absurd h (by rw [show holdsP (hill 159) [0, 1, 3] = true by kernel_rfl]; decide)
  · exact absurd h (by decide)
  · rcases h with ⟨-, -, h⟩ | ⟨rfl, L, hL, rfl⟩
    · exact absurd (show Ch 4 (hill 159).sure 1 3 0 [0, 2, 3] from .cons (by decide) (by decide) (by kernel_rfl) (by decide) (.cons (by decide) (by decide) (by kernel_rfl) (by decide) .one)) (h _)
    · obtain rfl := mend159 hL
      exact ⟨⟨v, rfl, RS.of_owns ho⟩, hb⟩
theorem c_mend160 {av gv : Value} {vb : Nat} {w : World} (hv : RS w.heap.size w (.slice (some ⟨vb, 0, none⟩) 3 3) 3 (ints [0, 1, 3])) (ha : RS w.heap.size w av 4 (ints (hill 160).ats)) (hg : RS w.heap.size w gv 4 (spans (hill 160).gr)) : Calls Try.prog 32 #[.agg #[av, gv, .int .i64 50, .int .i64 0, .int .i64 0], .slice (some ⟨vb, 0, none⟩) 3 3, .int .i64 1] w fun e w' => (∃ v, e = .returned (.tuple #[v, .int .i64 7])) ∧ Below w.heap.size w w' := by
  refine (Mend_any (p := hill 160) (xs := [0, 1, 3]) (lost := 1) (Nat.le_refl _) ha hg hv (fun a c e => by cases e; exact Nat.le_refl _) (by decide)).mono ?_
  rintro e w' ⟨hb, v, er, R, rfl, ho, h⟩
  rcases h with ⟨h, -⟩ | ⟨-, h, -⟩ | ⟨-, -, h, -⟩ | ⟨-, -, -, h, -⟩ | ⟨-, -, -, -, h⟩
  · exact absurd err160 h
  · exact absurd h (by rw [show inAll (hill 160).n [0, 1, 3] = true by kernel_rfl]; decide)
  · exact absurd h (by rw [show holdsP (hill 160) [0, 1, 3] = true by kernel_rfl]; decide)
  · exact absurd h (by decide)
  · rcases h with ⟨-, rfl, -⟩ | ⟨-, L, hL, -⟩
    · exact ⟨⟨v, rfl⟩, hb⟩
    · exact absurd hL.ch mend160
theorem c_nums {rb fb mb : Nat} {w : World} (hr : RS w.heap.size w (.slice (some ⟨rb, 0, none⟩) 3 3) 3 (spans book)) (hf : RS w.heap.size w (.slice (some ⟨fb, 0, none⟩) 1 1) 1 (spans [(150, 155)])) (hm : RS w.heap.size w (.slice (some ⟨mb, 0, none⟩) 2 2) 2 (ints [-1, -1])) : Calls Try.prog 33 #[.agg #[.slice (some ⟨rb, 0, none⟩) 3 3], .agg #[.slice (some ⟨fb, 0, none⟩) 1 1, .slice (some ⟨mb, 0, none⟩) 2 2]] w fun e w' => (∃ v, e = .returned (.tuple #[v, .int .i64 0]) ∧ RowsR w' v [[0, 1], [2, 3]]) ∧ Below w.heap.size w w' := by
  refine (Numbers_any (d := fnd (-1)) (Nat.le_refl _) hr (fun a c e => by cases e; exact Nat.le_refl _) hf (fun a n c e => by cases e; exact ⟨_, _, rfl⟩) hm).mono ?_
  rintro e w' ⟨v, er, rfl, hb, h⟩
  rcases h with ⟨h, -⟩ | ⟨-, ⟨k, hk, h⟩, -⟩ | ⟨-, -, rfl, h⟩
  · exact absurd nums1.1 h
  · exfalso
    have hk : k = 0 ∨ k = 1 := by have h2 : (fnd (-1)).m.length = 2 := rfl; omega
    rcases hk with rfl | rfl
    · rw [nums1.2.1] at h; cases h
    · rw [nums1.2.2] at h; cases h
  · have e2 : (List.range (fnd (-1)).m.length).map (nums (fnd (-1))) = [[0, 1], [2, 3]] := by
      show [nums (fnd (-1)) 0, nums (fnd (-1)) 1] = _
      rw [nums1.2.1, nums1.2.2]
    rw [e2] at h
    exact ⟨⟨v, rfl, RowsR.of_rows h⟩, hb⟩
theorem c_reads {rb fb mb : Nat} {w : World} (hr : RS w.heap.size w (.slice (some ⟨rb, 0, none⟩) 3 3) 3 (spans book)) (hf : RS w.heap.size w (.slice (some ⟨fb, 0, none⟩) 1 1) 1 (spans [(150, 155)])) (hm : RS w.heap.size w (.slice (some ⟨mb, 0, none⟩) 2 2) 2 (ints [-1, 3])) : Calls Try.prog 36 #[.agg #[.slice (some ⟨rb, 0, none⟩) 3 3], .agg #[.slice (some ⟨fb, 0, none⟩) 1 1, .slice (some ⟨mb, 0, none⟩) 2 2]] w fun e w' => e = .returned (.tuple #[.int .i64 1, .int .i64 0]) ∧ Below w.heap.size w w' := by
  have := Readings_any (d := fnd 3) (Nat.le_refl _) hr (fun a c e => by cases e; exact Nat.le_refl _) hf hm
  rw [reads1] at this
  exact this
theorem c_wrong {rb fb mb : Nat} {w : World} (hr : RS w.heap.size w (.slice (some ⟨rb, 0, none⟩) 3 3) 3 (spans book)) (hf : RS w.heap.size w (.slice (some ⟨fb, 0, none⟩) 2 2) 2 (spans [(120, 130), (30, 40)])) (hm : RS w.heap.size w (.slice (some ⟨mb, 0, none⟩) 3 3) 3 (ints [-1, -1, -1])) : Calls Try.prog 37 #[.agg #[.slice (some ⟨rb, 0, none⟩) 3 3], .agg #[.slice (some ⟨fb, 0, none⟩) 2 2, .slice (some ⟨mb, 0, none⟩) 3 3]] w fun e w' => (∃ v, e = .returned (.tuple #[v, .int .i64 0]) ∧ RS w'.heap.size w' v 1 (ints [1])) ∧ Below w.heap.size w w' := by
  refine (Wrong_any (d := wrg) (Nat.le_refl _) hr (fun a c e => by cases e; exact Nat.le_refl _) hf hm).mono ?_
  rintro e w' ⟨v, er, rfl, hb, h⟩
  rcases h with ⟨h, -⟩ | ⟨-, h, -⟩ | ⟨-, -, rfl, h⟩
  · exact absurd wrong1.1 h
  · rw [wrong1.2.1] at h; cases h
  · rw [show wrongTo wrg wrg.m.length = [1] from wrong1.2.2] at h
    exact ⟨⟨v, rfl, RS.of_owns h⟩, hb⟩
theorem c_eq {v : Value} {b n : Nat} {l : List Int} {w : World} (hn : l.length ≤ 1000) (hv : RS w.heap.size w v l.length (ints l)) (h2 : RS w.heap.size w (.slice (some ⟨b, 0, none⟩) n n) l.length (ints l)) : Calls Try.prog 30 #[v, .slice (some ⟨b, 0, none⟩) n n] w fun e w' => e = .returned (.bool true) ∧ Below w.heap.size w w' := by
  have := equal_ints hn hv h2
  rw [decide_eq_true (rfl : l = l)] at this
  exact this
/-- rows that are laid anew -/
theorem rowsR_new (w : World) (t1 t2 : TypeId) : RowsR (((w.alloc (.cells #[.int .i64 0, .int .i64 1] t1)).alloc (.cells #[.int .i64 2, .int .i64 3] t1)).alloc (.cells #[.slice (some ⟨w.heap.size, 0, none⟩) 2 2, .slice (some ⟨w.heap.size + 1, 0, none⟩) 2 2] t2)) (.slice (some ⟨w.heap.size + 1 + 1, 0, none⟩) 2 2) [[0, 1], [2, 3]] := by
  refine ⟨_, _, rfl, fun _ => ⟨_, _, rfl, by simp, fun k l hk => ?_⟩⟩
  match k with
  | 0 =>
    cases hk
    refine ⟨.slice (some ⟨w.heap.size, 0, none⟩) 2 2, by simp [go_sem], ?_⟩
    exact RS.on (RS.on (rs_new (w := w) (n := 2) (ints [0, 1]) rfl) ((Below.refl _ _).alloc (Nat.le_refl _) _)) ((Below.refl _ _).alloc (Nat.le_refl _) _)
  | 1 =>
    cases hk
    refine ⟨.slice (some ⟨w.heap.size + 1, 0, none⟩) 2 2, by simp [go_sem], ?_⟩
    have h := rs_new (w := w.alloc (.cells #[.int .i64 0, .int .i64 1] t1)) (n := 2) (t := t1) (ints [2, 3]) rfl
    have e : (w.alloc (.cells #[.int .i64 0, .int .i64 1] t1)).heap.size = w.heap.size + 1 := by simp
    rw [e] at h
    exact RS.on h ((Below.refl _ _).alloc (Nat.le_refl _) _)
  | k + 2 => cases hk
end Go.Proofs.Ytohjinbgbfggcaa
/-
  The examples of the chapter hold: the contract of awake.
-/
namespace Go.Proofs.Ytohjinbgbfggcaa
open Go.RowKit Go.Shelf
open Lim

set_option maxRecDepth 20000 in
set_option maxHeartbeats 8000000 in
theorem awake_any (w0 : World) : Calls Try.prog 13 #[] w0 fun e w' => e = .returned (.bool true) ∧ Below w0.heap.size w0 w' := by
  obtain ⟨w, hw⟩ : ∃ w, w = w0 := ⟨_, rfl⟩
  rw [← hw]
  clear hw
  have HB : Hid (Below w.heap.size w w) := Lib.hid (Below.refl _ w)
  go_enter Try.func13, Try.ntmps13
  go_wp2_with fail
  refine (Hill_any 160 _).mono ?_
  rintro e w1 ⟨av, gv, rfl, ha, hg, hb⟩
  have HB : Hid (Below w.heap.size w w1) := Lib.hid (HB.out.trans ((hb : Below w.heap.size w w1).mono HB.out.size))
  have HAG := Lib.hid (And.intro ha hg)
  have h1a := RS.one ha
  have h1g := RS.one hg
  clear ha hg hb
  go_wp2_with fail
  refine (c_sees02 HAG.out.1 HAG.out.2).mono ?_
  rintro e w2 ⟨rfl, hb⟩
  have HB : Hid (Below w.heap.size w w2) := Lib.hid (HB.out.trans ((hb : Below w1.heap.size w1 w2).mono HB.out.size))
  clear hb HAG h1a h1g
  go_wp2_with fail
  refine (Hill_any 160 _).mono ?_
  rintro e w3 ⟨av, gv, rfl, ha, hg, hb⟩
  have HB : Hid (Below w.heap.size w w3) := Lib.hid (HB.out.trans ((hb : Below w2.heap.size w2 w3).mono HB.out.size))
  have HAG := Lib.hid (And.intro ha hg)
  have h1a := RS.one ha
  have h1g := RS.one hg
  clear ha hg hb
  go_wp2_with fail
  refine (c_sees13 HAG.out.1 HAG.out.2).mono ?_
  rintro e w4 ⟨rfl, hb⟩
  have HB : Hid (Below w.heap.size w w4) := Lib.hid (HB.out.trans ((hb : Below w3.heap.size w3 w4).mono HB.out.size))
  clear hb HAG h1a h1g
  go_wp2_with fail
  refine (Hill_any 160 _).mono ?_
  rintro e w5 ⟨av, gv, rfl, ha, hg, hb⟩
  have HB : Hid (Below w.heap.size w w5) := Lib.hid (HB.out.trans ((hb : Below w4.heap.size w4 w5).mono HB.out.size))
  have HAG := Lib.hid (And.intro ha hg)
  have h1a := RS.one ha
  have h1g := RS.one hg
  clear ha hg hb
  go_wp2_with fail
  refine (c_sees03 HAG.out.1 HAG.out.2).mono ?_
  rintro e w6 ⟨rfl, hb⟩
  have HB : Hid (Below w.heap.size w w6) := Lib.hid (HB.out.trans ((hb : Below w5.heap.size w5 w6).mono HB.out.size))
  clear hb HAG h1a h1g
  go_wp2_with fail
  refine (Hill_any 160 _).mono ?_
  rintro e w7 ⟨av, gv, rfl, ha, hg, hb⟩
  have HB : Hid (Below w.heap.size w w7) := Lib.hid (HB.out.trans ((hb : Below w6.heap.size w6 w7).mono HB.out.size))
  have HAG := Lib.hid (And.intro ha hg)
  have h1a := RS.one ha
  have h1g := RS.one hg
  clear ha hg hb
  go_wp2_with fail
  refine (c_few HAG.out.1 HAG.out.2).mono ?_
  rintro e w8 ⟨⟨lv, rfl, hl⟩, hb⟩
  have HB : Hid (Below w.heap.size w w8) := Lib.hid (HB.out.trans ((hb : Below w7.heap.size w7 w8).mono HB.out.size))
  have HL := Lib.hid hl
  have h1l := RS.one hl
  clear hl hb HAG h1a h1g
  go_wp2_with fail
  refine (Hill_any 160 _).mono ?_
  rintro e w9 ⟨av, gv, rfl, ha, hg, hb⟩
  have HB : Hid (Below w.heap.size w w9) := Lib.hid (HB.out.trans ((hb : Below w8.heap.size w8 w9).mono HB.out.size))
  have HL := Lib.hid (RS.on HL.out hb)
  have HAG := Lib.hid (And.intro ha hg)
  have h1a := RS.one ha
  have h1g := RS.one hg
  clear ha hg hb
  go_wp2_with fail
  refine (c_prov (rs_new (w := w9) (n := 4) (t := 3) (ints [0, 1, 2, 2]) rfl) (RS.on HAG.out.1 ((Below.refl _ w9).alloc (Nat.le_refl _) (.cells #[.int .i64 0, .int .i64 1, .int .i64 2, .int .i64 2] 3))) (RS.on HAG.out.2 ((Below.refl _ w9).alloc (Nat.le_refl _) (.cells #[.int .i64 0, .int .i64 1, .int .i64 2, .int .i64 2] 3)))).mono ?_
  rintro e w10 ⟨rfl, hb⟩
  have HB : Hid (Below w.heap.size w w10) := Lib.hid (HB.out.trans (((((Below.refl _ w9).alloc (Nat.le_refl _) (.cells #[.int .i64 0, .int .i64 1, .int .i64 2, .int .i64 2] 3)).trans (hb.mono ((Below.refl _ w9).alloc (Nat.le_refl _) (.cells #[.int .i64 0, .int .i64 1, .int .i64 2, .int .i64 2] 3)).size)) : Below w9.heap.size w9 w10).mono HB.out.size))
  have HL := Lib.hid (RS.on HL.out (((Below.refl _ w9).alloc (Nat.le_refl _) (.cells #[.int .i64 0, .int .i64 1, .int .i64 2, .int .i64 2] 3)).trans (hb.mono ((Below.refl _ w9).alloc (Nat.le_refl _) (.cells #[.int .i64 0, .int .i64 1, .int .i64 2, .int .i64 2] 3)).size)))
  clear hb HAG h1a h1g
  go_wp2_with fail
  refine (c_eq (l := [0, 1, 3]) (by decide) (RS.on HL.out ((Below.refl _ w10).alloc (Nat.le_refl _) (.cells #[.int .i64 0, .int .i64 1, .int .i64 3] 3))) (rs_new (w := w10) (n := 3) (t := 3) (ints [0, 1, 3]) rfl)).mono ?_
  rintro e w11 ⟨rfl, hb⟩
  have HB : Hid (Below w.heap.size w w11) := Lib.hid (HB.out.trans (((((Below.refl _ w10).alloc (Nat.le_refl _) (.cells #[.int .i64 0, .int .i64 1, .int .i64 3] 3)).trans (hb.mono ((Below.refl _ w10).alloc (Nat.le_refl _) (.cells #[.int .i64 0, .int .i64 1, .int .i64 3] 3)).size)) : Below w10.heap.size w10 w11).mono HB.out.size))
  clear hb HL
  go_wp2_with fail
  refine (Hill_any 160 _).mono ?_
  rintro e w12 ⟨av, gv, rfl, ha, hg, hb⟩
  have HB : Hid (Below w.heap.size w w12) := Lib.hid (HB.out.trans ((hb : Below w11.heap.size w11 w12).mono HB.out.size))
  have HAG := Lib.hid (And.intro ha hg)
  have h1a := RS.one ha
  have h1g := RS.one hg
  clear ha hg hb
  go_wp2_with fail
  refine (c_tall02 HAG.out.1 HAG.out.2).mono ?_
  rintro e w13 ⟨rfl, hb⟩
  have HB : Hid (Below w.heap.size w w13) := Lib.hid (HB.out.trans ((hb : Below w12.heap.size w12 w13).mono HB.out.size))
  clear hb HAG h1a h1g
  go_wp2_with fail
  refine (Hill_any 160 _).mono ?_
  rintro e w14 ⟨av, gv, rfl, ha, hg, hb⟩
  have HB : Hid (Below w.heap.size w w14) := Lib.hid (HB.out.trans ((hb : Below w13.heap.size w13 w14).mono HB.out.size))
  have HAG := Lib.hid (And.intro ha hg)
  have h1a := RS.one ha
  have h1g := RS.one hg
  clear ha hg hb
  go_wp2_with fail
  refine (c_tall03 HAG.out.1 HAG.out.2).mono ?_
  rintro e w15 ⟨rfl, hb⟩
  have HB : Hid (Below w.heap.size w w15) := Lib.hid (HB.out.trans ((hb : Below w14.heap.size w14 w15).mono HB.out.size))
  clear hb HAG h1a h1g
  go_wp2_with fail
  refine (Hill_any 159 _).mono ?_
  rintro e w16 ⟨av, gv, rfl, ha, hg, hb⟩
  have HB : Hid (Below w.heap.size w w16) := Lib.hid (HB.out.trans ((hb : Below w15.heap.size w15 w16).mono HB.out.size))
  have HAG := Lib.hid (And.intro ha hg)
  have h1a := RS.one ha
  have h1g := RS.one hg
  clear ha hg hb
  go_wp2_with fail
  refine (c_mend159 (rs_new (w := w16) (n := 3) (t := 3) (ints [0, 1, 3]) rfl) (RS.on HAG.out.1 ((Below.refl _ w16).alloc (Nat.le_refl _) (.cells #[.int .i64 0, .int .i64 1, .int .i64 3] 3))) (RS.on HAG.out.2 ((Below.refl _ w16).alloc (Nat.le_refl _) (.cells #[.int .i64 0, .int .i64 1, .int .i64 3] 3)))).mono ?_
  rintro e w17 ⟨⟨mv, rfl, hm⟩, hb⟩
  have HB : Hid (Below w.heap.size w w17) := Lib.hid (HB.out.trans (((((Below.refl _ w16).alloc (Nat.le_refl _) (.cells #[.int .i64 0, .int .i64 1, .int .i64 3] 3)).trans (hb.mono ((Below.refl _ w16).alloc (Nat.le_refl _) (.cells #[.int .i64 0, .int .i64 1, .int .i64 3] 3)).size)) : Below w16.heap.size w16 w17).mono HB.out.size))
  have HM := Lib.hid hm
  have h1m := RS.one hm
  clear hm hb HAG h1a h1g
  go_wp2_with fail
  refine (Hill_any 160 _).mono ?_
  rintro e w18 ⟨av, gv, rfl, ha, hg, hb⟩
  have HB : Hid (Below w.heap.size w w18) := Lib.hid (HB.out.trans ((hb : Below w17.heap.size w17 w18).mono HB.out.size))
  have HM := Lib.hid (RS.on HM.out hb)
  have HAG := Lib.hid (And.intro ha hg)
  have h1a := RS.one ha
  have h1g := RS.one hg
  clear ha hg hb
  go_wp2_with fail
  refine (c_mend160 (rs_new (w := w18) (n := 3) (t := 3) (ints [0, 1, 3]) rfl) (RS.on HAG.out.1 ((Below.refl _ w18).alloc (Nat.le_refl _) (.cells #[.int .i64 0, .int .i64 1, .int .i64 3] 3))) (RS.on HAG.out.2 ((Below.refl _ w18).alloc (Nat.le_refl _) (.cells #[.int .i64 0, .int .i64 1, .int .i64 3] 3)))).mono ?_
  rintro e w19 ⟨⟨zv, rfl⟩, hb⟩
  have HB : Hid (Below w.heap.size w w19) := Lib.hid (HB.out.trans (((((Below.refl _ w18).alloc (Nat.le_refl _) (.cells #[.int .i64 0, .int .i64 1, .int .i64 3] 3)).trans (hb.mono ((Below.refl _ w18).alloc (Nat.le_refl _) (.cells #[.int .i64 0, .int .i64 1, .int .i64 3] 3)).size)) : Below w18.heap.size w18 w19).mono HB.out.size))
  have HM := Lib.hid (RS.on HM.out (((Below.refl _ w18).alloc (Nat.le_refl _) (.cells #[.int .i64 0, .int .i64 1, .int .i64 3] 3)).trans (hb.mono ((Below.refl _ w18).alloc (Nat.le_refl _) (.cells #[.int .i64 0, .int .i64 1, .int .i64 3] 3)).size)))
  clear hb HAG h1a h1g
  go_wp2_with fail
  refine (c_eq (l := [0, 2, 3]) (by decide) (RS.on HM.out ((Below.refl _ w19).alloc (Nat.le_refl _) (.cells #[.int .i64 0, .int .i64 2, .int .i64 3] 3))) (rs_new (w := w19) (n := 3) (t := 3) (ints [0, 2, 3]) rfl)).mono ?_
  rintro e w20 ⟨rfl, hb⟩
  have HB : Hid (Below w.heap.size w w20) := Lib.hid (HB.out.trans (((((Below.refl _ w19).alloc (Nat.le_refl _) (.cells #[.int .i64 0, .int .i64 2, .int .i64 3] 3)).trans (hb.mono ((Below.refl _ w19).alloc (Nat.le_refl _) (.cells #[.int .i64 0, .int .i64 2, .int .i64 3] 3)).size)) : Below w19.heap.size w19 w20).mono HB.out.size))
  clear hb HM
  go_wp2_with fail
  refine (Book_any _).mono ?_
  rintro e w21 ⟨rb, rfl, hr, hb⟩
  have HB : Hid (Below w.heap.size w w21) := Lib.hid (HB.out.trans ((hb : Below w20.heap.size w20 w21).mono HB.out.size))
  have HR := Lib.hid hr
  clear hr hb
  go_wp2_with fail
  refine (found_any 150 155 (-1) _).mono ?_
  rintro e w22 ⟨fb, mb, rfl, hf, hm, hb⟩
  have HB : Hid (Below w.heap.size w w22) := Lib.hid (HB.out.trans ((hb : Below w21.heap.size w21 w22).mono HB.out.size))
  have HR := Lib.hid (RS.on HR.out hb)
  have HF := Lib.hid (And.intro hf hm)
  clear hf hm hb
  go_wp2_with fail
  refine (c_nums HR.out HF.out.1 HF.out.2).mono ?_
  rintro e w23 ⟨⟨kv, rfl, hk⟩, hb⟩
  have HB : Hid (Below w.heap.size w w23) := Lib.hid (HB.out.trans ((hb : Below w22.heap.size w22 w23).mono HB.out.size))
  have HK := Lib.hid hk
  have h1k : kv.oneCell' = true := by obtain ⟨a, c, rfl, -⟩ := hk; rfl
  clear hk hb HR HF
  go_wp2_with fail
  refine (Book_any _).mono ?_
  rintro e w24 ⟨rb, rfl, hr, hb⟩
  have HB : Hid (Below w.heap.size w w24) := Lib.hid (HB.out.trans ((hb : Below w23.heap.size w23 w24).mono HB.out.size))
  have HK := Lib.hid (HK.out.below hb)
  have HR := Lib.hid hr
  clear hr hb
  go_wp2_with fail
  refine (found_any 150 155 3 _).mono ?_
  rintro e w25 ⟨fb, mb, rfl, hf, hm, hb⟩
  have HB : Hid (Below w.heap.size w w25) := Lib.hid (HB.out.trans ((hb : Below w24.heap.size w24 w25).mono HB.out.size))
  have HK := Lib.hid (HK.out.below hb)
  have HR := Lib.hid (RS.on HR.out hb)
  have HF := Lib.hid (And.intro hf hm)
  clear hf hm hb
  go_wp2_with fail
  refine (c_reads HR.out HF.out.1 HF.out.2).mono ?_
  rintro e w26 ⟨rfl, hb⟩
  have HB : Hid (Below w.heap.size w w26) := Lib.hid (HB.out.trans ((hb : Below w25.heap.size w25 w26).mono HB.out.size))
  have HK := Lib.hid (HK.out.below hb)
  clear hb HR HF
  go_wp2_with fail
  refine (Book_any _).mono ?_
  rintro e w27 ⟨rb, rfl, hr, hb⟩
  have HB : Hid (Below w.heap.size w w27) := Lib.hid (HB.out.trans ((hb : Below w26.heap.size w26 w27).mono HB.out.size))
  have HK := Lib.hid (HK.out.below hb)
  have HR := Lib.hid hr
  clear hr hb
  go_wp2_with fail
  refine (span_any 120 130 _).mono ?_
  rintro e w28 ⟨rfl, hb⟩
  have HB : Hid (Below w.heap.size w w28) := Lib.hid (HB.out.trans ((hb : Below w27.heap.size w27 w28).mono HB.out.size))
  have HK := Lib.hid (HK.out.below hb)
  have HR := Lib.hid (RS.on HR.out hb)
  clear hb
  go_wp2_with fail
  refine (span_any 30 40 _).mono ?_
  rintro e w29 ⟨rfl, hb⟩
  have HB : Hid (Below w.heap.size w w29) := Lib.hid (HB.out.trans ((hb : Below w28.heap.size w28 w29).mono HB.out.size))
  have HK := Lib.hid (HK.out.below hb)
  have HR := Lib.hid (RS.on HR.out hb)
  clear hb
  have HS : (w29.alloc (.cells #[.int .i64 120, .int .i64 130, .int .i64 30, .int .i64 40] 28)).heap.size = w29.heap.size + 1 := by simp
  have HF : Hid (RS ((w29.alloc (.cells #[.int .i64 120, .int .i64 130, .int .i64 30, .int .i64 40] 28)).alloc (.cells #[.int .i64 (-1), .int .i64 (-1), .int .i64 (-1)] 3)).heap.size ((w29.alloc (.cells #[.int .i64 120, .int .i64 130, .int .i64 30, .int .i64 40] 28)).alloc (.cells #[.int .i64 (-1), .int .i64 (-1), .int .i64 (-1)] 3)) (.slice (some ⟨w29.heap.size, 0, none⟩) 2 2) 2 (spans [(120, 130), (30, 40)]) ∧ RS ((w29.alloc (.cells #[.int .i64 120, .int .i64 130, .int .i64 30, .int .i64 40] 28)).alloc (.cells #[.int .i64 (-1), .int .i64 (-1), .int .i64 (-1)] 3)).heap.size ((w29.alloc (.cells #[.int .i64 120, .int .i64 130, .int .i64 30, .int .i64 40] 28)).alloc (.cells #[.int .i64 (-1), .int .i64 (-1), .int .i64 (-1)] 3)) (.slice (some ⟨w29.heap.size + 1, 0, none⟩) 3 3) 3 (ints [-1, -1, -1])) := Lib.hid (by
    have h2 := rs_new (w := (w29.alloc (.cells #[.int .i64 120, .int .i64 130, .int .i64 30, .int .i64 40] 28))) (n := 3) (t := 3) (ints [-1, -1, -1]) rfl
    rw [HS] at h2
    exact ⟨RS.on (rs_new (w := w29) (n := 2) (t := 28) (spans [(120, 130), (30, 40)]) rfl) ((Below.refl _ (w29.alloc (.cells #[.int .i64 120, .int .i64 130, .int .i64 30, .int .i64 40] 28))).alloc (Nat.le_refl _) (.cells #[.int .i64 (-1), .int .i64 (-1), .int .i64 (-1)] 3)), h2⟩)
  clear HS
  go_wp2_with fail
  refine (c_wrong (RS.on HR.out ((((Below.refl _ w29).alloc (Nat.le_refl _) (.cells #[.int .i64 120, .int .i64 130, .int .i64 30, .int .i64 40] 28)).alloc (by simp) (.cells #[.int .i64 (-1), .int .i64 (-1), .int .i64 (-1)] 3)))) HF.out.1 HF.out.2).mono ?_
  rintro e w30 ⟨⟨ov, rfl, ho⟩, hb⟩
  have HB : Hid (Below w.heap.size w w30) := Lib.hid (HB.out.trans (((((((Below.refl _ w29).alloc (Nat.le_refl _) (.cells #[.int .i64 120, .int .i64 130, .int .i64 30, .int .i64 40] 28)).alloc (by simp) (.cells #[.int .i64 (-1), .int .i64 (-1), .int .i64 (-1)] 3))).trans (hb.mono ((((Below.refl _ w29).alloc (Nat.le_refl _) (.cells #[.int .i64 120, .int .i64 130, .int .i64 30, .int .i64 40] 28)).alloc (by simp) (.cells #[.int .i64 (-1), .int .i64 (-1), .int .i64 (-1)] 3))).size)) : Below w29.heap.size w29 w30).mono HB.out.size))
  have HK := Lib.hid (HK.out.below (((((Below.refl _ w29).alloc (Nat.le_refl _) (.cells #[.int .i64 120, .int .i64 130, .int .i64 30, .int .i64 40] 28)).alloc (by simp) (.cells #[.int .i64 (-1), .int .i64 (-1), .int .i64 (-1)] 3))).trans (hb.mono ((((Below.refl _ w29).alloc (Nat.le_refl _) (.cells #[.int .i64 120, .int .i64 130, .int .i64 30, .int .i64 40] 28)).alloc (by simp) (.cells #[.int .i64 (-1), .int .i64 (-1), .int .i64 (-1)] 3))).size)))
  have HO := Lib.hid ho
  have h1o := RS.one ho
  clear ho hb HR HF
  go_wp2_with fail
  refine (equalall_any (Ls := [[0, 1], [2, 3]]) (by decide) (by decide) (HK.out.below ((((Below.refl _ w30).alloc (Nat.le_refl _) (.cells #[.int .i64 0, .int .i64 1] 3)).alloc (by simp) (.cells #[.int .i64 2, .int .i64 3] 3)).alloc (by simp; omega) (.cells #[.slice (some ⟨w30.heap.size, 0, none⟩) 2 2, .slice (some ⟨w30.heap.size + 1, 0, none⟩) 2 2] 25))) (rowsR_new w30 _ _)).mono ?_
  rintro e w31 ⟨rfl, hb⟩
  have HB : Hid (Below w.heap.size w w31) := Lib.hid (HB.out.trans ((((((((Below.refl _ w30).alloc (Nat.le_refl _) (.cells #[.int .i64 0, .int .i64 1] 3)).alloc (by simp) (.cells #[.int .i64 2, .int .i64 3] 3)).alloc (by simp; omega) (.cells #[.slice (some ⟨w30.heap.size, 0, none⟩) 2 2, .slice (some ⟨w30.heap.size + 1, 0, none⟩) 2 2] 25))).trans (hb.mono (((((Below.refl _ w30).alloc (Nat.le_refl _) (.cells #[.int .i64 0, .int .i64 1] 3)).alloc (by simp) (.cells #[.int .i64 2, .int .i64 3] 3)).alloc (by simp; omega) (.cells #[.slice (some ⟨w30.heap.size, 0, none⟩) 2 2, .slice (some ⟨w30.heap.size + 1, 0, none⟩) 2 2] 25))).size)) : Below w30.heap.size w30 w31).mono HB.out.size))
  have HO := Lib.hid (RS.on HO.out ((((((Below.refl _ w30).alloc (Nat.le_refl _) (.cells #[.int .i64 0, .int .i64 1] 3)).alloc (by simp) (.cells #[.int .i64 2, .int .i64 3] 3)).alloc (by simp; omega) (.cells #[.slice (some ⟨w30.heap.size, 0, none⟩) 2 2, .slice (some ⟨w30.heap.size + 1, 0, none⟩) 2 2] 25))).trans (hb.mono (((((Below.refl _ w30).alloc (Nat.le_refl _) (.cells #[.int .i64 0, .int .i64 1] 3)).alloc (by simp) (.cells #[.int .i64 2, .int .i64 3] 3)).alloc (by simp; omega) (.cells #[.slice (some ⟨w30.heap.size, 0, none⟩) 2 2, .slice (some ⟨w30.heap.size + 1, 0, none⟩) 2 2] 25))).size)))
  clear hb HK
  go_wp2_with fail
  refine (c_eq (l := [1]) (by decide) (RS.on HO.out ((Below.refl _ w31).alloc (Nat.le_refl _) (.cells #[.int .i64 1] 3))) (rs_new (w := w31) (n := 1) (t := 3) (ints [1]) rfl)).mono ?_
  rintro e w32 ⟨rfl, hb⟩
  have HB : Hid (Below w.heap.size w w32) := Lib.hid (HB.out.trans (((((Below.refl _ w31).alloc (Nat.le_refl _) (.cells #[.int .i64 1] 3)).trans (hb.mono ((Below.refl _ w31).alloc (Nat.le_refl _) (.cells #[.int .i64 1] 3)).size)) : Below w31.heap.size w31 w32).mono HB.out.size))
  clear hb HO
  go_wp2
  go_ret
  exact ⟨rfl, HB.out⟩
end Go.Proofs.Ytohjinbgbfggcaa
