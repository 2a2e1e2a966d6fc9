/-
  Parts of the proof, in the order in which they build: Drawn.
-/
import Derived.Test.YtdgibmgifgdpbaaH11
import Derived.Test.YtdgibmgifgdpbaaH14
set_option linter.unusedVariables false
set_option linter.unusedSimpArgs false
namespace Go.Proofs.Ytdgibmgifgdpbaa
open Go.RowKit Go.Shelf
open Lim

/-- memory while a truth is drawn -/
structure DrS (w : World) (S d : Nat) (hv : Value) (hs : List (Int × Int)) (c : Nat) (v : Value) (T : List Int) (W : World) : Prop where
  gr : w.grownBy W (some d)
  dk : Deck W d c
  h : W.ownsRow S 54 2 hv hs.length (spans hs)
  o : W.ownsRow w.heap.size 3 1 v T.length (ints T)
theorem DrS.dealt {w : World} {S d : Nat} {hv : Value} {hs : List (Int × Int)} {c : Nat} {v : Value} {T : List Int} {W W' : World} (H : DrS w S d hv hs c v T W) (hS : d < S ∧ S ≤ w.heap.size) (hd : Dealt d c W W') : DrS w S d hv hs (c + 1) v T W' :=
  ⟨grown_trans H.gr hd.2.1, hd.1, owns_grown H.h hd.2.1 (fun r e => by cases e; exact hS.1), owns_grown H.o hd.2.1 (fun r e => by cases e; omega)⟩
theorem DrS.grow {w : World} {S d : Nat} {hv : Value} {hs : List (Int × Int)} {c : Nat} {v : Value} {T : List Int} {W W' : World} (H : DrS w S d hv hs c v T W) (hb : Below W.heap.size W W') : DrS w S d hv hs c v T W' :=
  ⟨grown_on H.gr hb, H.dk.below hb, owns_below H.h hb, owns_below H.o hb⟩
theorem DrS.push {w : World} {S d : Nat} {hv : Value} {hs : List (Int × Int)} {c : Nat} {v v' : Value} {T : List Int} {x : Int} {W W' : World} (H : DrS w S d hv hs c v T W) (hS : d < S ∧ S ≤ w.heap.size) (ho : W'.ownsRow w.heap.size 3 1 v' (T.length + 1) (ints T ++ [.int .i64 x])) (hg : W.grownBy W' v.ownBlock) (hv2 : ∀ r, hv.ownBlock = some r → r < w.heap.size) : DrS w S d hv hs c v' (T ++ [x]) W' := by
  have hlo : ∀ r, v.ownBlock = some r → w.heap.size ≤ r := fun r e => (H.o.lt r e).1
  refine ⟨⟨hg.os.trans H.gr.os, hg.tape.trans H.gr.tape, hg.output.trans H.gr.output, Nat.le_trans H.gr.size hg.size, fun k hk hr => (hg.block k (Nat.lt_of_lt_of_le hk H.gr.size) (fun e => by have := hlo k e.symm; omega)).trans (H.gr.block k hk hr)⟩,
    H.dk.row hg (fun r e => by have := hlo r e; omega), H.h.kept hg ?_, ?_⟩
  · by_cases e : v.ownBlock = none
    · rw [e]
      cases hb : hv.ownBlock with
      | none => exact .inl rfl
      | some r => exact .inr (by simp)
    · right
      intro e2
      obtain ⟨r, hr⟩ : ∃ r, v.ownBlock = some r := by
        cases hb : v.ownBlock with
        | none => exact absurd hb e
        | some r => exact ⟨r, rfl⟩
      have h1 := hlo r hr
      have h2 := hv2 r (by rw [e2, hr])
      omega
  · have e : (T ++ [x]).length = T.length + 1 := by simp
    rw [e]
    simpa [ints] using ho
/-- the truth so far -/
structure Part (hs : List (Int × Int)) (T : List Int) (k : Nat) : Prop where
  len : T.length = k
  r : ∀ c, c < k → (hs.getD c (0, 0)).1 ≤ T.getD c 0 ∧ T.getD c 0 ≤ (hs.getD c (0, 0)).2
theorem Part.snoc {hs : List (Int × Int)} {T : List Int} {k : Nat} (h : Part hs T k) {x lo hi : Int} (e : (lo, hi) = hs.getD k (0, 0)) (hx : lo ≤ x ∧ x ≤ hi) : Part hs (T ++ [x]) (k + 1) := by
  have hl := h.len
  refine ⟨by simp [hl], fun c hc => ?_⟩
  by_cases ec : c = k
  · subst ec
    have e2 : (T ++ [x]).getD c 0 = x := by rw [← hl, List.getD_eq_getElem?_getD]; simp
    rw [e2, ← e]; exact hx
  · have e2 : (T ++ [x]).getD c 0 = T.getD c 0 := by rw [List.getD_eq_getElem?_getD, List.getElem?_append_left (by omega), List.getD_eq_getElem?_getD]
    rw [e2]; exact h.r c (by omega)
/-- what drawn answers -/
def DrawnAns (d c0 : Nat) (hs : List (Int × Int)) (w : World) (e : Ending) (w' : World) : Prop :=
  ∃ (tv : Value) (T : List Int) (c' : Nat), e = .returned tv ∧ InSp hs T ∧ w'.ownsRow w.heap.size 3 1 tv T.length (ints T) ∧ Deck w' d c' ∧ c' ≤ c0 + 2 * hs.length ∧ w.grownBy w' (some d)

set_option maxRecDepth 20000 in
set_option maxHeartbeats 4000000 in
theorem drawn_any {S d c0 : Nat} {wd : Int} {hv sv : Value} {hs : List (Int × Int)} {w : World} (hd : Deck w d c0) (hc0 : c0 ≤ 500000) (hS : d < S ∧ S ≤ w.heap.size) (hh : w.ownsRow S 54 2 hv hs.length (spans hs)) (hs1 : sv.oneCell' = true) (h0 : 0 < hs.length) (hn : hs.length ≤ 100)
    (hr : ∀ c, c < hs.length → 0 ≤ (hs.getD c (0, 0)).1 ∧ (hs.getD c (0, 0)).1 ≤ (hs.getD c (0, 0)).2 ∧ (hs.getD c (0, 0)).2 ≤ 10000) :
    Calls Try.prog 35 #[.pointer (some ⟨d, 0, none⟩), .agg #[.int .i64 wd, hv, sv]] w fun e w' => DrawnAns d c0 hs w e w' := by
  obtain ⟨i0, hi, hz0, hz1, hz2⟩ := info_parts Try.infoInt
  have HI := Lib.hid (And.intro hi (And.intro hz0 (And.intro hz1 hz2)))
  clear hi hz0 hz1 hz2
  have hlt := hh.lt
  obtain ⟨p, cap, rfl⟩ : ∃ p cap, hv = .slice (some ⟨p, 0, none⟩) hs.length cap := by
    rcases hh.2 with ⟨h1, h2⟩ | ⟨g, cap, cur, h1, -⟩
    · omega
    · exact ⟨g, cap, h1⟩
  have hp : S ≤ p ∧ p < w.heap.size := hlt p rfl
  have hb0 : Below w.heap.size w (w.alloc (.cells #[.int .i64 wd, .slice (some ⟨p, 0, none⟩) hs.length cap, sv] 25)) := (Below.refl _ w).alloc (Nat.le_refl _) _
  have HD : Hid (DrS w S d (.slice (some ⟨p, 0, none⟩) hs.length cap) hs c0 (.slice none 0 0) [] (w.alloc (.cells #[.int .i64 wd, .slice (some ⟨p, 0, none⟩) hs.length cap, sv] 25))) := Lib.hid
    ⟨grown_on (grown_refl w (some d)) hb0, hd.below hb0, owns_below hh hb0, World.ownsRow_nil _ _ _ _⟩
  have HP := Lib.hid (And.intro hp hS)
  have HR := Lib.hid hr
  clear hr hlt hp hS hb0 hh hd
  go_enter Try.func35, Try.ntmps35
  go_wp2_with fail
  go_loopw [5, 11] (fun v i W => ∃ (k c : Nat) (T : List Int), k ≤ hs.length ∧ i = .int .i64 k ∧ Hid (c ≤ c0 + 2 * k) ∧ Hid (Part hs T k) ∧ Hid (DrS w S d (.slice (some ⟨p, 0, none⟩) hs.length cap) hs c v T W)) (fun _ i _ => hs.length - (intOf i).toNat)
  case atStart => exact ⟨0, c0, [], Nat.zero_le _, rfl, Lib.hid (by omega), Lib.hid ⟨rfl, fun c hc => by omega⟩, HD⟩
  case round =>
    clear HD
    obtain ⟨k, c, T, hk, rfl, HC, HPT, HM⟩ := hrel
    by_cases hlt : k < hs.length
    · obtain ⟨⟨q0, q1⟩, -⟩ := span_at HM.out.h hlt
      obtain ⟨⟨lo, hi⟩, hx⟩ : ∃ x, x = hs.getD k (0, 0) := ⟨_, rfl⟩
      rw [← hx] at q0 q1
      have hlr : 0 ≤ lo ∧ lo ≤ hi ∧ hi ≤ 10000 := by have := HR.out k hlt; rw [← hx] at this; exact this
      have HX := Lib.hid (And.intro hx hlr)
      have hlt1 : (k : Int) < (hs.length : Int) := by omega
      clear hx hlr
      go_wp2_with fail
      clear q0 q1
      have hb1 : Below wr.heap.size wr (wr.alloc (.cells #[.int .i64 lo, .int .i64 hi] 54)) := (Below.refl _ wr).alloc (Nat.le_refl _) _
      have HM1 := Lib.hid (HM.out.grow hb1)
      have HQ := Lib.hid (heap_alloc_new wr (.cells #[.int .i64 lo, .int .i64 hi] 54))
      obtain ⟨b, hbe⟩ : ∃ b, b = wr.heap.size := ⟨_, rfl⟩
      have hbl : b < (wr.alloc (.cells #[.int .i64 lo, .int .i64 hi] 54)).heap.size := by rw [hbe]; simp
      have hbd : d < b := by have h1 := HP.out; have h2 := HM.out.gr.size; omega
      simp only [← hbe] at HQ ⊢
      clear hbe hb1 HM
      generalize wr.alloc (.cells #[.int .i64 lo, .int .i64 hi] 54) = w1 at HM1 HQ hbl ⊢
      refine (deck_draw (n := 3) HM1.out.dk (by have := HC.out; omega)).mono ?_
      rintro e w2 ⟨r, rfl, hr, hdl⟩
      have HM2 := Lib.hid (HM1.out.dealt HP.out.2 hdl)
      have hq := (hdl.2.1.block b hbl (fun e => by cases e; omega)).trans HQ.out
      obtain ⟨⟨q0, q1⟩, -⟩ := two_cells hq
      have hbl2 : b < w2.heap.size := Nat.lt_of_lt_of_le hbl hdl.2.1.size
      have HQ2 := Lib.hid (And.intro hq hbl2)
      clear hdl HM1 HQ hbl hq hr hbl2
      have HLT : Hid (T.length ≤ 100) := Lib.hid (by have := HPT.out.len; omega)
      by_cases hr0 : r = 0
      · subst hr0
        go_wp2_with (at_builtin; refine wpList_append_own _ rfl _ _ 23 rfl w.heap.size 3 i0 (.int .i64 0) 1 8 Try.underlying23 HI.out.1 HI.out.2.1 HI.out.2.2.1 HI.out.2.2.2 rfl (by decide) _ _ _ rfl (HM2.out.grow ((Below.refl _ w2).alloc (Nat.le_refl _) (.cells #[.int .i64 lo] 3))).o ⟨w2.heap.size, 0, none⟩ 1 1 [.int .i64 lo] rfl rfl (cell_one_new _ _ _) (by simp [Value.oneCell']) (by have := HLT.out; unfold maxLen; omega) (by have := HLT.out; omega) (by have := HM2.out.gr.size; simp; omega) ?_; intro v' w3 hown3 hgrow _; have H3 := Lib.hid ((HM2.out.grow ((Below.refl _ w2).alloc (Nat.le_refl _) (.cells #[.int .i64 lo] 3))).push HP.out.2 hown3 hgrow (fun r e => by cases e; exact HP.out.1.2)); clear hown3 hgrow)
        go_roundw
        case rel => exact ⟨k + 1, _, _, by omega, by go_num, Lib.hid (by have := HC.out; omega), Lib.hid (HPT.out.snoc HX.out.1 ⟨Int.le_refl _, HX.out.2.2.1⟩), H3⟩
        case measure => simp [intOf]; omega
      · have d0 : (r == 0) = false := by rw [beq_eq_false_iff_ne]; exact hr0
        clear hr0
        by_cases hr1 : r = 1
        · subst hr1
          go_wp2_with (at_builtin; refine wpList_append_own _ rfl _ _ 23 rfl w.heap.size 3 i0 (.int .i64 0) 1 8 Try.underlying23 HI.out.1 HI.out.2.1 HI.out.2.2.1 HI.out.2.2.2 rfl (by decide) _ _ _ rfl (HM2.out.grow ((Below.refl _ w2).alloc (Nat.le_refl _) (.cells #[.int .i64 hi] 3))).o ⟨w2.heap.size, 0, none⟩ 1 1 [.int .i64 hi] rfl rfl (cell_one_new _ _ _) (by simp [Value.oneCell']) (by have := HLT.out; unfold maxLen; omega) (by have := HLT.out; omega) (by have := HM2.out.gr.size; simp; omega) ?_; intro v' w3 hown3 hgrow _; have H3 := Lib.hid ((HM2.out.grow ((Below.refl _ w2).alloc (Nat.le_refl _) (.cells #[.int .i64 hi] 3))).push HP.out.2 hown3 hgrow (fun r e => by cases e; exact HP.out.1.2)); clear hown3 hgrow)
          go_roundw
          case rel => exact ⟨k + 1, _, _, by omega, by go_num, Lib.hid (by have := HC.out; omega), Lib.hid (HPT.out.snoc HX.out.1 ⟨HX.out.2.2.1, Int.le_refl _⟩), H3⟩
          case measure => simp [intOf]; omega
        · have d1 : (r == 1) = false := by rw [beq_eq_false_iff_ne]; exact hr1
          clear hr1
          go_wp2_with fail
          clear q0 q1
          refine (deck_between (a := lo) (b := hi) HM2.out.dk (by have := HC.out; omega) (by have := HX.out.2; omega) (by have := HX.out.2; omega) HX.out.2.2.1).mono ?_
          rintro e w4 ⟨x, rfl, hx, hdl⟩
          have HM4 := Lib.hid (HM2.out.dealt HP.out.2 hdl)
          have HXX := Lib.hid hx
          clear hdl hx HM2
          go_wp2_with (at_builtin; refine wpList_append_own _ rfl _ _ 23 rfl w.heap.size 3 i0 (.int .i64 0) 1 8 Try.underlying23 HI.out.1 HI.out.2.1 HI.out.2.2.1 HI.out.2.2.2 rfl (by decide) _ _ _ rfl (HM4.out.grow ((Below.refl _ w4).alloc (Nat.le_refl _) (.cells #[.int .i64 x] 3))).o ⟨w4.heap.size, 0, none⟩ 1 1 [.int .i64 x] rfl rfl (cell_one_new _ _ _) (by simp [Value.oneCell']) (by have := HLT.out; unfold maxLen; omega) (by have := HLT.out; omega) (by have := HM4.out.gr.size; simp; omega) ?_; intro v' w3 hown3 hgrow _; have H3 := Lib.hid ((HM4.out.grow ((Below.refl _ w4).alloc (Nat.le_refl _) (.cells #[.int .i64 x] 3))).push HP.out.2 hown3 hgrow (fun r e => by cases e; exact HP.out.1.2)); clear hown3 hgrow)
          go_roundw
          case rel => exact ⟨k + 1, _, _, by omega, by go_num, Lib.hid (by have := HC.out; omega), Lib.hid (HPT.out.snoc HX.out.1 HXX.out), H3⟩
          case measure => simp [intOf]; omega
    · have hkn : k = hs.length := by omega
      subst hkn
      go_wp2
      go_ret
      exact ⟨_, T, c, rfl, ⟨HPT.out.len, HPT.out.r⟩, HM.out.o, HM.out.dk, HC.out, HM.out.gr⟩
end Go.Proofs.Ytdgibmgifgdpbaa
