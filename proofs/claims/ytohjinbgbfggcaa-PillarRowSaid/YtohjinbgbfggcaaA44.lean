/-
  Parts of the proof, in the order in which they build: PoC.
-/
import Derived.Test.YtohjinbgbfggcaaA42
import Derived.Test.YtohjinbgbfggcaaA43
set_option linter.unusedVariables false
set_option linter.unusedSimpArgs false
namespace Go.Proofs.Ytohjinbgbfggcaa
open Go.RowKit Go.Shelf
open Lim

/-- memory while a truth is drawn -/
structure DrS (w : World) (S d : Nat) (gv : Value) (p : Pf) (bx : Obj) (c : Nat) (v : Value) (T : List Int) (W : World) : Prop where
  gr : w.grownBy W (some d)
  dk : Deck W d c
  h : W.ownsRow S 28 2 gv p.gr.length (spans p.gr)
  o : W.ownsRow w.heap.size 3 1 v T.length (ints T)
  b : W.heap[w.heap.size]? = some bx ∧ ∃ cs fr, bx = .cells cs 30 fr
theorem DrS.bl {w : World} {S d : Nat} {gv : Value} {p : Pf} {bx : Obj} {c : Nat} {v : Value} {T : List Int} {W : World} (H : DrS w S d gv p bx c v T W) : w.heap.size < W.heap.size := (Array.getElem?_eq_some_iff.1 H.b.1).1
theorem DrS.dealt {w : World} {S d : Nat} {gv : Value} {p : Pf} {bx : Obj} {c : Nat} {v : Value} {T : List Int} {W W' : World} (H : DrS w S d gv p bx c v T W) (hS : d < S ∧ S ≤ w.heap.size) (hd : Dealt d c W W') : DrS w S d gv p bx (c + 1) v T W' :=
  ⟨grown_trans H.gr hd.2.1, hd.1, owned_keep (r := ⟨28, 2, gv, p.gr.length, spans p.gr⟩) H.h (fun k hk => by
      obtain ⟨h1, h2, -⟩ := owned_block (r := ⟨28, 2, gv, p.gr.length, spans p.gr⟩) H.h hk
      exact hd.2.1.block k h2 (fun e => by cases e; omega)),
    owned_keep (r := ⟨3, 1, v, T.length, ints T⟩) H.o (fun k hk => by
      obtain ⟨h1, h2, -⟩ := owned_block (r := ⟨3, 1, v, T.length, ints T⟩) H.o hk
      exact hd.2.1.block k h2 (fun e => by cases e; omega)),
    (hd.2.1.block _ H.bl (fun e => by cases e; omega)).trans H.b.1, H.b.2⟩
theorem DrS.grow {w : World} {S d : Nat} {gv : Value} {p : Pf} {bx : Obj} {c : Nat} {v : Value} {T : List Int} {W W' : World} (H : DrS w S d gv p bx c v T W) (hb : Below W.heap.size W W') : DrS w S d gv p bx c v T W' :=
  ⟨grown_on H.gr hb, H.dk.below hb, owns_below H.h hb, owns_below H.o hb, heap_grow H.b.1 hb, H.b.2⟩
theorem DrS.push {w : World} {S d : Nat} {gv : Value} {p : Pf} {bx : Obj} {c : Nat} {v v' : Value} {T : List Int} {x : Int} {W W' : World} (H : DrS w S d gv p bx c v T W) (hS : d < S ∧ S ≤ w.heap.size) (ho : W'.ownsRow w.heap.size 3 1 v' (T.length + 1) (ints T ++ [.int .i64 x])) (hg : W.grownBy W' v.ownBlock) : DrS w S d gv p bx c v' (T ++ [x]) W' := by
  have hlo : ∀ r, v.ownBlock = some r → w.heap.size ≤ r ∧ ∃ cs, W.heap[r]? = some (.cells cs 3 (0, 0)) := fun r e => by
    obtain ⟨h1, -, h3⟩ := owned_block (r := ⟨3, 1, v, T.length, ints T⟩) H.o e
    exact ⟨h1, h3⟩
  refine ⟨⟨hg.os.trans H.gr.os, hg.tape.trans H.gr.tape, hg.output.trans H.gr.output, Nat.le_trans H.gr.size hg.size, fun k hk hr => (hg.block k (Nat.lt_of_lt_of_le hk H.gr.size) (fun e => by have := (hlo k e.symm).1; omega)).trans (H.gr.block k hk hr)⟩,
    H.dk.row hg (fun r e => by have := (hlo r e).1; omega), ?_, ?_, (hg.block _ H.bl (fun e => ?_)).trans H.b.1, H.b.2⟩
  · exact owned_keep (r := ⟨28, 2, gv, p.gr.length, spans p.gr⟩) H.h (fun k hk => by
      obtain ⟨h1, h2, cs, h3⟩ := owned_block (r := ⟨28, 2, gv, p.gr.length, spans p.gr⟩) H.h hk
      exact hg.block k h2 (fun e => by
        obtain ⟨-, cs', h4⟩ := hlo k e.symm
        rw [h3] at h4
        exact absurd (Obj.cells.inj (Option.some.inj h4)).2.1 (by show ¬ 28 = 3; decide)))
  · have e : (T ++ [x]).length = T.length + 1 := by simp
    rw [e]
    simpa [ints] using ho
  · obtain ⟨-, cs', h4⟩ := hlo _ e.symm
    obtain ⟨cs, fr, h5⟩ := H.b.2
    rw [H.b.1, h5] at h4
    exact absurd (Obj.cells.inj (Option.some.inj h4)).2.1 (by show ¬ 30 = 3; decide)
/-- the truth so far -/
structure Part (gr : List (Int × Int)) (T : List Int) (k : Nat) : Prop where
  len : T.length = k
  r : ∀ c, c < k → (gr.getD c (0, 0)).1 ≤ T.getD c 0 ∧ T.getD c 0 ≤ (gr.getD c (0, 0)).2
theorem Part.snoc {gr : List (Int × Int)} {T : List Int} {k : Nat} (h : Part gr T k) {x lo hi : Int} (e : (lo, hi) = gr.getD k (0, 0)) (hx : lo ≤ x ∧ x ≤ hi) : Part gr (T ++ [x]) (k + 1) := by
  have hl := h.len
  refine ⟨by simp [hl], fun c hc => ?_⟩
  rw [getD_snoc, hl]
  by_cases ec : c < k
  · rw [if_pos ec]; exact h.r c ec
  · rw [if_neg ec, if_pos (by omega), show c = k by omega, ← e]; exact hx
/-- what drawn answers -/
def DrawnAns (d c0 : Nat) (p : Pf) (w : World) (e : Ending) (w' : World) : Prop :=
  ∃ (tv : Value) (T : List Int) (bd : Int) (c' : Nat), e = .returned (.tuple #[tv, .int .i64 bd]) ∧ TruB p T bd ∧ w'.ownsRow w.heap.size 3 1 tv T.length (ints T) ∧ Deck w' d c' ∧ c' ≤ c0 + p.gr.length + 1 ∧ w.grownBy w' (some d)

set_option maxRecDepth 20000 in
set_option maxHeartbeats 4000000 in
theorem drawn_any {S d c0 : Nat} {av gv : Value} {p : Pf} {w : World} (hok : p.Ok) (hd : Deck w d c0) (hc0 : c0 ≤ 500000) (hS : d < S ∧ S ≤ w.heap.size) (hh : w.ownsRow S 28 2 gv p.gr.length (spans p.gr)) (ha1 : av.oneCell' = true) :
    Calls Try.prog 8 #[.pointer (some ⟨d, 0, none⟩), .agg #[av, gv, .int .i64 p.tall, .int .i64 p.lo, .int .i64 p.hi]] w fun e w' => DrawnAns d c0 p w e w' := by
  obtain ⟨i0, hi, hz0, hz1, hz2⟩ := info_parts Try.infoInt
  have HI := Lib.hid (And.intro hi (And.intro hz0 (And.intro hz1 hz2)))
  clear hi hz0 hz1 hz2
  have hn : p.gr.length = p.n := hok.gn
  have hn2 := hok.n2
  have hn40 := hok.n40
  obtain ⟨g, cap, rfl⟩ : ∃ g cap, gv = .slice (some ⟨g, 0, none⟩) p.gr.length cap := form_pos (r := ⟨28, 2, gv, p.gr.length, spans p.gr⟩) hh (by show 0 < p.gr.length; omega)
  obtain ⟨tl, htl⟩ : ∃ x, x = p.tall := ⟨_, rfl⟩
  obtain ⟨lo, hlo⟩ : ∃ x, x = p.lo := ⟨_, rfl⟩
  obtain ⟨hi, hhi⟩ : ∃ x, x = p.hi := ⟨_, rfl⟩
  rw [← htl, ← hlo, ← hhi]
  have HBD : Hid (lo = p.lo ∧ hi = p.hi ∧ 0 ≤ lo ∧ lo ≤ hi ∧ hi ≤ 1000) := Lib.hid (by have := hok.bend; rw [hlo, hhi]; exact ⟨rfl, rfl, by omega, by omega, by omega⟩)
  obtain ⟨bx, hbx⟩ : ∃ bx, bx = Obj.cells #[av, .slice (some ⟨g, 0, none⟩) p.gr.length cap, .int .i64 tl, .int .i64 lo, .int .i64 hi] 30 (0, 0) := ⟨_, rfl⟩
  have HBX := Lib.hid hbx
  have hb0 : Below w.heap.size w (w.alloc (.cells #[av, .slice (some ⟨g, 0, none⟩) p.gr.length cap, .int .i64 tl, .int .i64 lo, .int .i64 hi] 30)) := (Below.refl _ w).alloc (Nat.le_refl _) _
  have HD : Hid (DrS w S d (.slice (some ⟨g, 0, none⟩) p.gr.length cap) p bx c0 (.slice none 0 0) [] (w.alloc (.cells #[av, .slice (some ⟨g, 0, none⟩) p.gr.length cap, .int .i64 tl, .int .i64 lo, .int .i64 hi] 30))) := Lib.hid
    ⟨grown_on (grown_refl w (some d)) hb0, hd.below hb0, owns_below hh hb0, World.ownsRow_nil _ _ _ _, by rw [hbx]; exact heap_alloc_new _ _, by rw [hbx]; exact ⟨_, _, rfl⟩⟩
  have HS := Lib.hid hS
  have HOK := Lib.hid hok
  have HNN : Hid (p.gr.length = p.n ∧ 2 ≤ p.gr.length ∧ p.gr.length ≤ 40) := Lib.hid (by omega)
  clear hS hok hb0 hh hd htl hlo hhi hbx hn hn2 hn40
  go_enter Try.func8, Try.ntmps8
  go_wp2_with fail
  go_loopw [6, 12] (fun v i W => ∃ (k c : Nat) (T : List Int), k ≤ p.gr.length ∧ i = .int .i64 k ∧ Hid (c ≤ c0 + k) ∧ Hid (Part p.gr T k) ∧ Hid (DrS w S d (.slice (some ⟨g, 0, none⟩) p.gr.length cap) p bx c v T W)) (fun _ i _ => p.gr.length - (intOf i).toNat)
  case atStart => exact ⟨0, c0, [], Nat.zero_le _, rfl, Lib.hid (by omega), Lib.hid ⟨rfl, fun c hc => by omega⟩, HD⟩
  case round =>
    clear HD
    obtain ⟨k, c, T, hk, rfl, HC, HPT, HM⟩ := hrel
    by_cases hlt : k < p.gr.length
    · have q0 := row_cell (r := rwS (.slice (some ⟨g, 0, none⟩) p.gr.length cap) p.gr.length p.gr) HM.out.h rfl (spans_lo p.gr k hlt)
      have q1 := row_cell (r := rwS (.slice (some ⟨g, 0, none⟩) p.gr.length cap) p.gr.length p.gr) HM.out.h rfl (spans_hi p.gr k hlt)
      obtain ⟨⟨x1, x2⟩, hx⟩ : ∃ x, x = p.gr[k] := ⟨_, rfl⟩
      rw [← hx] at q0 q1
      have hx' : (x1, x2) = p.gr.getD k (0, 0) := by rw [hx, List.getD_eq_getElem?_getD, List.getElem?_eq_getElem hlt]; rfl
      have hlr : 0 ≤ x1 ∧ x1 ≤ x2 ∧ x2 ≤ 1000000 := by
        have := HOK.out.gr k (by have := HNN.out; omega)
        unfold Pf.g at this
        rw [← hx'] at this
        exact this
      have HX := Lib.hid (And.intro hx' hlr)
      have hlt1 : (k : Int) < (p.gr.length : Int) := by omega
      have hk40 : k < 40 := by have := HNN.out; omega
      clear hx hx' hlr
      go_wp2_with fail
      clear q0 q1
      have hb1 : Below wr.heap.size wr (wr.alloc (.cells #[.int .i64 x1, .int .i64 x2] 28)) := (Below.refl _ wr).alloc (Nat.le_refl _) _
      have HM1 := Lib.hid (HM.out.grow hb1)
      clear hb1 HM
      generalize wr.alloc (.cells #[.int .i64 x1, .int .i64 x2] 28) = w1 at HM1 ⊢
      refine (deck_between (a := x1) (b := x2) HM1.out.dk (by have := HC.out; have := HNN.out; omega) (by have := HX.out.2; omega) (by have := HX.out.2; omega) HX.out.2.2.1).mono ?_
      rintro e w4 ⟨x, rfl, hx, hdl⟩
      have HM4 := Lib.hid (HM1.out.dealt HS.out hdl)
      have HXX := Lib.hid hx
      have HLT : Hid (T.length ≤ 40) := Lib.hid (by have := HPT.out.len; have := HNN.out; omega)
      clear hdl hx HM1
      go_wp2_with (at_builtin; refine wpList_append_own _ rfl _ _ 25 rfl w.heap.size 3 i0 (.int .i64 0) 1 8 Try.underlying25 HI.out.1 HI.out.2.1 HI.out.2.2.1 HI.out.2.2.2 rfl (by decide) _ _ _ rfl (HM4.out.grow ((Below.refl _ w4).alloc (Nat.le_refl _) (.cells #[.int .i64 x] 3))).o ⟨w4.heap.size, 0, none⟩ 1 1 [.int .i64 x] rfl rfl (cell_one_new _ _ _) (by simp [Value.oneCell']) (by have := HLT.out; unfold maxLen; omega) (by have := HLT.out; omega) (by have := HM4.out.gr.size; simp; omega) ?_; intro v' w3 hown3 hgrow _; have H3 := Lib.hid ((HM4.out.grow ((Below.refl _ w4).alloc (Nat.le_refl _) (.cells #[.int .i64 x] 3))).push HS.out hown3 hgrow); clear hown3 hgrow)
      go_roundw
      case rel => exact ⟨k + 1, _, _, by omega, by go_num, Lib.hid (by have := HC.out; omega), Lib.hid (HPT.out.snoc HX.out.1 HXX.out), H3⟩
      case measure => simp [intOf]; omega
    · have hkn : k = p.gr.length := by omega
      subst hkn
      obtain ⟨-, -, -, b3, b4⟩ := (five_cells (by have h := HM.out.b.1; rw [HBX.out] at h; exact h)).1
      go_wp2_with fail
      clear b3 b4
      refine (deck_between (a := lo) (b := hi) HM.out.dk (by have := HC.out; have := HNN.out; omega) (by have := HBD.out; omega) (by have := HBD.out; omega) (by have := HBD.out; omega)).mono ?_
      rintro e w4 ⟨bd, rfl, hbd, hdl⟩
      have HM4 := Lib.hid (HM.out.dealt HS.out hdl)
      have HBB : Hid (p.lo ≤ bd ∧ bd ≤ p.hi) := Lib.hid (by have := HBD.out; omega)
      clear hdl hbd HM
      go_wp2
      go_ret2
      exact ⟨_, T, bd, c + 1, rfl, ⟨by rw [HPT.out.len]; exact HNN.out.1, fun y hy => HPT.out.r y (by have := HNN.out; omega), HBB.out⟩, HM4.out.o, HM4.out.dk, by have := HC.out; omega, HM4.out.gr⟩
end Go.Proofs.Ytohjinbgbfggcaa
