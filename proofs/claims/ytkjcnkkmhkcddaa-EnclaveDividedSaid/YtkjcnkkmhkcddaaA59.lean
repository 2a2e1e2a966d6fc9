/-
  Parts of the proof, in the order in which they build: EzG, EzJ, EzK, EzQ, EzU, EzV, EzW.
-/
import Derived.Maps.AppendAt
import Derived.Deep.CutRange
import Derived.BigQuiet
import Derived.Test.YtkjcnkkmhkcddaaA40
import Derived.Test.YtkjcnkkmhkcddaaC1
import Derived.Test.YtkjcnkkmhkcddaaA58
import Derived.Test.YtkjcnkkmhkcddaaA25
import Derived.Test.YtkjcnkkmhkcddaaA14
import Derived.Test.YtkjcnkkmhkcddaaA37
import Derived.Test.YtkjcnkkmhkcddaaA36
set_option linter.unusedVariables false
set_option linter.unusedSimpArgs false
/-
  Lands that are right, in plain words; and what Divide answers on them.
-/
namespace Go.Proofs.Ytkjcnkkmhkcddaa
open Go.RowKit Go.Shelf
open Lim

/-- a land without error -/
structure LandG (wd hi : Nat) (os es ss : List Int) : Prop where
  w1 : 1 ≤ wd
  h1 : 1 ≤ hi
  n1 : wd * hi ≤ 100
  lo : os.length = wd * hi
  le : es.length = wd * hi
  ls : ss.length = wd * hi
  o : ∀ k, k < wd * hi → -1 ≤ os.getD k 0 ∧ os.getD k 0 ≤ 1
  e : ∀ k, k < wd * hi → 0 ≤ es.getD k 0 ∧ es.getD k 0 ≤ 1000
  s : ∀ k, k < wd * hi → 0 ≤ ss.getD k 0 ∧ ss.getD k 0 ≤ 1000
  ee : ∀ k, k < wd * hi → k % wd + 1 = wd → es.getD k 0 = 0
  se : ∀ k, k < wd * hi → wd * hi ≤ k + wd → ss.getD k 0 = 0
  a : ∃ k, k < wd * hi ∧ os.getD k 0 = 0
  b : ∃ k, k < wd * hi ∧ os.getD k 0 = 1
theorem getD_mem {l : List Int} {k : Nat} {x : Int} (hk : k < l.length) (h : l.getD k 0 = x) : x ∈ l := by
  rw [List.getD_eq_getElem?_getD, List.getElem?_eq_getElem hk] at h
  rw [← h]
  exact List.getElem_mem hk
theorem LandG.err {wd hi : Nat} {os es ss : List Int} (h : LandG wd hi os es ss) : errL wd os es ss = 0 := by
  have h4 : 0 < wd * hi := Nat.mul_pos h.w1 h.h1
  have hc : countB (wd : Int) os.length = true := by
    unfold countB
    have := h.lo
    have := h.n1
    have := h.w1
    rw [inB_true (by omega) (by omega)]
    simp only [Bool.true_and, Bool.and_eq_true, decide_eq_true_eq]
    refine ⟨by omega, ?_⟩
    rw [h.lo, Int.toNat_natCast, Nat.mul_mod_right]
  have h1 : sizL wd os es ss = true := by
    simp only [sizL, hc, Bool.true_and, Bool.and_eq_true, decide_eq_true_eq]
    exact ⟨by rw [h.le, h.lo], by rw [h.ls, h.lo]⟩
  have h2 : valL os es ss = true := by
    simp only [valL, Bool.and_eq_true, List.all_eq_true, List.mem_range, inB_iff]
    exact ⟨⟨fun k hk => h.o k (by rw [← h.lo]; exact hk), fun k hk => h.e k (by rw [← h.le]; exact hk)⟩, fun k hk => h.s k (by rw [← h.ls]; exact hk)⟩
  have h3 : ((List.range os.length).any fun q => badL (wd : Int).toNat es ss os.length q) = false := by
    rw [List.any_eq_false]
    intro k hk
    have hk : k < wd * hi := by rw [← h.lo]; exact List.mem_range.1 hk
    have e1 := h.ee k hk
    have e2 := h.se k hk
    simp only [badL, Int.toNat_natCast, h.lo, Bool.or_eq_true, Bool.and_eq_true, decide_eq_true_eq]
    rintro (⟨a, b⟩ | ⟨a, b⟩)
    · rw [e1 a] at b; exact absurd b (by decide)
    · rw [e2 a] at b; exact absurd b (by decide)
  obtain ⟨ka, ha, ea⟩ := h.a
  obtain ⟨kb, hb, eb⟩ := h.b
  unfold errL
  rw [if_pos h1, if_pos h2, h3, if_neg (by decide), if_pos ⟨getD_mem (by rw [h.lo]; exact ha) ea, getD_mem (by rw [h.lo]; exact hb) eb⟩]
theorem cutES_eq {n wd : Nat} {E S : Nat → Int} {D : Nat → Bool} (hw : 0 < wd) (hd : n % wd = 0) : cutOf n (fun a b => (hsF n wd E S a b).getD 0) D = cutES n wd E S D := by
  have h := cutL_cut (n := n) (wd := wd) (o := fun k => if D k = true then 1 else 0) (E := E) (S := S) (D := D) hw hd (fun a b _ _ => by cases D a <;> cases D b <;> simp)
  rw [← h, cutL_sum]
  refine sm_congr n fun a _ => ?_
  have e : ∀ x y, ((fun k => if D k = true then (1 : Int) else 0) x ≠ (fun k => if D k = true then (1 : Int) else 0) y) ↔ D x ≠ D y := fun x y => by cases h1 : D x <;> cases h2 : D y <;> simp [h1, h2]
  simp only [e]
/-- Divide's answer on a land without error: the fewest that can be cut -/
def DivMin (wd hi : Nat) (os es ss : List Int) (w : World) (e : Ending) (w' : World) : Prop :=
  Below w.heap.size w w' ∧ ∃ (M : Nat → Bool) (v : Value) (c : Int), e = .returned (.tuple #[v, .int .i64 c, .int .i64 0]) ∧ w'.ownsRow w.heap.size 3 1 v (wd * hi) (ints (ownL M (wd * hi))) ∧ Keeps (wd * hi) (fun k => os.getD k 0) (fun k => !M k) ∧ c = cutES (wd * hi) wd (fun k => es.getD k 0) (fun k => ss.getD k 0) (fun k => !M k) ∧ IsMin (wd * hi) wd (fun k => os.getD k 0) (fun k => es.getD k 0) (fun k => ss.getD k 0) c
theorem DivAns.min {wd hi : Nat} {os es ss : List Int} {w w' : World} {e : Ending} (h : LandG wd hi os es ss) (ha : DivAns wd os es ss w e w') : DivMin wd hi os es ss w e w' := by
  obtain ⟨hb, ⟨he, -⟩ | ⟨-, M, v, c, g, rfl, ho, hK, hF, hc, hcut⟩⟩ := ha
  · exact absurd h.err he
  · rw [Int.toNat_natCast, h.lo] at hF hcut
    rw [h.lo] at hK ho hc
    have hd : wd * hi % wd = 0 := Nat.mul_mod_right _ _
    have hmin : ∀ D, Keeps (wd * hi) (fun k => os.getD k 0) D → c ≤ cutES (wd * hi) wd (fun k => es.getD k 0) (fun k => ss.getD k 0) D := fun D hD => by
      have h1 := hF.le hD
      rw [cutES_eq h.w1 hd, ← hc] at h1
      exact h1
    rw [cutES_eq h.w1 hd] at hcut
    exact ⟨hb, M, v, c, rfl, ho, hK, hcut, ⟨⟨_, hK, hcut.symm⟩, hmin⟩⟩
end Go.Proofs.Ytkjcnkkmhkcddaa
/-
  Lands are cloned.
-/
namespace Go.Proofs.Ytkjcnkkmhkcddaa
open Go.RowKit Go.Shelf
open Lim

attribute [local go_sem] Oper.semAt_some

end Go.Proofs.Ytkjcnkkmhkcddaa
/-
  Lands of a deck: the contract of Landed.
-/
namespace Go.Proofs.Ytkjcnkkmhkcddaa
open Go.RowKit Go.Shelf
open Lim

attribute [local go_sem] Oper.semAt_some

/-- Landed's memory: its result at q6, the land at q7, three rows; only the deck is changed of what was there -/
structure LnM (w : World) (d c q6 q7 : Nat) (wd : Int) (v1 v2 v3 : Value) (t : Nat) (os es ss : List Int) (W : World) : Prop where
  dk : Deck W d c
  sp : Sep (fun x => x = d) w W
  me : Mem W w.heap.size [] [rwI v1 t os, rwI v2 t es, rwI v3 t ss] [(q7, .cells #[.int .i64 wd, v1, v2, v3] 44 (0, 0)), (q6, .cells #[.int .i64 0, .slice none 0 0, .slice none 0 0, .slice none 0 0] 44 (0, 0))] W
  lt : d < w.heap.size
theorem Deck.under {W W' : World} {d n S : Nat} (h : Deck W d n) (hb : Below S W W') (hS : d < S) : Deck W' d n := by
  obtain ⟨cv, l, k, s, h, hk⟩ := h
  have he : W'.heap[d]? = W.heap[d]? := hb.block d hS
  have hb' : Below d W W' := ⟨hb.os, hb.tape, hb.output, hb.size, fun k hk => hb.block k (by omega)⟩
  exact ⟨cv, l, k, s, ⟨⟨(World.cell?_of_block he).trans h.c.1, (World.cell?_of_block he).trans h.c.2.1, (World.cell?_of_block he).trans h.c.2.2⟩, ⟨(World.frozen?_of_block he).trans h.f.1, (World.frozen?_of_block he).trans h.f.2⟩, h.r.below hb', h.u, h.k0, h.s0⟩, hk⟩
section
variable {w W W' : World} {d c q6 q7 t : Nat} {wd : Int} {v1 v2 v3 : Value} {os es ss : List Int}
theorem LnM.dealt (h : LnM w d c q6 q7 wd v1 v2 v3 t os es ss W) (hd : Dealt d c W W') : LnM w d (c + 1) q6 q7 wd v1 v2 v3 t os es ss W' :=
  ⟨hd.1, h.sp.from (Sep.of_grown hd.2.1) (fun k _ e => by cases e; rfl), h.me.dealt hd h.lt, h.lt⟩
theorem LnM.below (h : LnM w d c q6 q7 wd v1 v2 v3 t os es ss W) (hb : Below W.heap.size W W') : LnM w d c q6 q7 wd v1 v2 v3 t os es ss W' :=
  ⟨h.dk.under hb (by have := h.sp.size; have := h.lt; omega), h.sp.from (T' := fun _ => False) (Sep.of_below hb) (fun _ _ e => e.elim), h.me.rebase (fun k _ h2 => hb.block k h2) hb.size, h.lt⟩
/-- what a region has made of it -/
theorem LnM.next (h : LnM w d c q6 q7 wd v1 v2 v3 t os es ss W) {u1 u2 u3 : Value} {n : Nat} {os' es' ss' : List Int} {Q : List Row} (H : Mem W w.heap.size [] ([rwI u1 n os', rwI u2 n es', rwI u3 n ss'] ++ Q) [(q7, .cells #[.int .i64 wd, u1, u2, u3] 44 (0, 0)), (q6, .cells #[.int .i64 0, .slice none 0 0, .slice none 0 0, .slice none 0 0] 44 (0, 0))] W') : LnM w d c q6 q7 wd u1 u2 u3 n os' es' ss' W' :=
  ⟨h.dk.under H.b h.lt, h.sp.from (T' := fun k => w.heap.size ≤ k) ⟨H.b.os, H.b.tape, H.b.output, H.b.size, fun k _ h2 => H.b.block k (by omega)⟩ (fun k h1 h2 => by omega), (H.less (fun _ h => h) (List.sublist_append_left _ _) (List.Sublist.refl _)).rebase (fun _ _ _ => rfl) (Nat.le_refl _), h.lt⟩
end
/-- the plots that are made so far -/
structure PlL (wd n t : Nat) (os es ss : List Int) : Prop where
  lo : os.length = t
  le : es.length = t
  ls : ss.length = t
  o : ∀ k, k < t → -1 ≤ os.getD k 0 ∧ os.getD k 0 ≤ 1
  e : ∀ k, k < t → 0 ≤ es.getD k 0 ∧ es.getD k 0 ≤ 11
  s : ∀ k, k < t → 0 ≤ ss.getD k 0 ∧ ss.getD k 0 ≤ 11
  ee : ∀ k, k < t → k % wd + 1 = wd → es.getD k 0 = 0
  se : ∀ k, k < t → n ≤ k + wd → ss.getD k 0 = 0
theorem getD_more (l : List Int) (x : Int) {t : Nat} (hl : l.length = t) (k : Nat) (hk : k < t + 1) : (l ++ [x]).getD k 0 = if k = t then x else l.getD k 0 := by
  rw [List.getD_eq_getElem?_getD, List.getD_eq_getElem?_getD]
  by_cases e : k = t
  · rw [if_pos e, e, ← hl]; simp
  · rw [if_neg e, List.getElem?_append_left (by omega)]
theorem PlL.more {wd n t : Nat} {os es ss : List Int} (h : PlL wd n t os es ss) {o e s : Int} (ho : -1 ≤ o ∧ o ≤ 1) (he : 0 ≤ e ∧ e ≤ 11 ∧ (t % wd + 1 = wd → e = 0)) (hs : 0 ≤ s ∧ s ≤ 11 ∧ (n ≤ t + wd → s = 0)) : PlL wd n (t + 1) (os ++ [o]) (es ++ [e]) (ss ++ [s]) := by
  refine ⟨by simp [h.lo], by simp [h.le], by simp [h.ls], fun k hk => ?_, fun k hk => ?_, fun k hk => ?_, fun k hk => ?_, fun k hk => ?_⟩
  · rw [getD_more os o h.lo k hk]; split
    · exact ho
    · exact h.o k (by omega)
  · rw [getD_more es e h.le k hk]; split
    · exact ⟨he.1, he.2.1⟩
    · exact h.e k (by omega)
  · rw [getD_more ss s h.ls k hk]; split
    · exact ⟨hs.1, hs.2.1⟩
    · exact h.s k (by omega)
  · rw [getD_more es e h.le k hk]; split
    · rename_i e; rw [e]; exact he.2.2
    · exact h.ee k (by omega)
  · rw [getD_more ss s h.ls k hk]; split
    · rename_i e; rw [e]; exact hs.2.2
    · exact h.se k (by omega)
theorem getD_setI (l : List Int) (i j : Nat) (v : Int) : (l.set i v).getD j 0 = if i = j ∧ j < l.length then v else l.getD j 0 := by
  rw [List.getD_eq_getElem?_getD, List.getD_eq_getElem?_getD, List.getElem?_set]
  by_cases h : i = j
  · subst h
    by_cases h2 : i < l.length
    · simp [h2]
    · simp [h2]
  · simp [h]
/-- the first plot and the last one are of a state each -/
theorem PlL.land {wd hi : Nat} {os es ss : List Int} (hw : 1 ≤ wd) (hh : 2 ≤ hi) (hn : wd * hi ≤ 100) (h : PlL wd (wd * hi) (wd * hi) os es ss) : LandG wd hi ((os.set 0 0).set (wd * hi - 1) 1) es ss ∧ ((os.set 0 0).set (wd * hi - 1) 1).getD 0 0 = 0 ∧ ((os.set 0 0).set (wd * hi - 1) 1).getD (wd * hi - 1) 0 = 1 := by
  have h2 : 1 * 2 ≤ wd * hi := Nat.mul_le_mul hw hh
  have g : ∀ k, k < wd * hi → ((os.set 0 0).set (wd * hi - 1) 1).getD k 0 = if k = wd * hi - 1 then 1 else if k = 0 then 0 else os.getD k 0 := fun k hk => by
    rw [getD_setI, getD_setI, List.length_set, h.lo]
    by_cases e1 : k = wd * hi - 1
    · rw [if_pos ⟨e1.symm, hk⟩, if_pos e1]
    · rw [if_neg (fun h => e1 h.1.symm), if_neg e1]
      by_cases e2 : k = 0
      · rw [if_pos ⟨e2.symm, hk⟩, if_pos e2]
      · rw [if_neg (fun h => e2 h.1.symm), if_neg e2]
  have ga : ((os.set 0 0).set (wd * hi - 1) 1).getD 0 0 = 0 := by rw [g 0 (by omega), if_neg (by omega), if_pos rfl]
  have gb : ((os.set 0 0).set (wd * hi - 1) 1).getD (wd * hi - 1) 0 = 1 := by rw [g _ (by omega), if_pos rfl]
  refine ⟨⟨hw, by omega, hn, by simp [h.lo], h.le, h.ls, fun k hk => ?_, fun k hk => ?_, fun k hk => ?_, h.ee, h.se, ⟨0, by omega, ga⟩, ⟨wd * hi - 1, by omega, gb⟩⟩, ga, gb⟩
  · rw [g k hk]; split
    · omega
    · split
      · omega
      · exact h.o k hk
  · have := h.e k hk; omega
  · have := h.s k hk; omega
/-- what Landed answers -/
def LandedAns (C R d : Nat) (w : World) (e : Ending) (w' : World) : Prop :=
  ∃ (wd hi : Nat) (v1 v2 v3 : Value) (os es ss : List Int), e = .returned (.agg #[.int .i64 wd, v1, v2, v3]) ∧ wd ≤ C ∧ 2 ≤ hi ∧ hi ≤ R ∧ LandG wd hi os es ss ∧ ((∀ k, k < wd * hi → es.getD k 0 ≤ 11 ∧ ss.getD k 0 ≤ 11) ∧ os.getD 0 0 = 0 ∧ os.getD (wd * hi - 1) 0 = 1) ∧
    (rwI v1 (wd * hi) os).Owned w' w.heap.size ∧ (rwI v2 (wd * hi) es).Owned w' w.heap.size ∧ (rwI v3 (wd * hi) ss).Owned w' w.heap.size ∧ Sep (fun x => x = d) w w'
set_option maxRecDepth 20000 in
set_option maxHeartbeats 8000000 in
theorem landed_any {C R d c : Nat} {w : World} (hC : 1 ≤ C ∧ C ≤ 10) (hR : 2 ≤ R ∧ R ≤ 10) (hd : Deck w d c) (hc : c < 1000) :
    Calls Try.prog 21 #[.pointer (some ⟨d, 0, none⟩), .int .i64 C, .int .i64 R] w fun e w' => LandedAns C R d w e w' := by
  obtain ⟨i0, hi, hz0, hz1, hz2⟩ := info_parts Try.infoInt
  have HF := Lib.hid (And.intro hi (And.intro hz0 (And.intro hz1 hz2)))
  have HCR := Lib.hid (And.intro hC (And.intro hR (And.intro hd.lt hc)))
  have HM1 : Hid (Mem (w.alloc (.cells #[.int .i64 0, .slice none 0 0, .slice none 0 0, .slice none 0 0] 44)) w.heap.size [] [] [(w.heap.size, .cells #[.int .i64 0, .slice none 0 0, .slice none 0 0, .slice none 0 0] 44 (0, 0))] (w.alloc (.cells #[.int .i64 0, .slice none 0 0, .slice none 0 0, .slice none 0 0] 44)) ∧ Deck (w.alloc (.cells #[.int .i64 0, .slice none 0 0, .slice none 0 0, .slice none 0 0] 44)) d c ∧ Sep (fun x => x = d) w (w.alloc (.cells #[.int .i64 0, .slice none 0 0, .slice none 0 0, .slice none 0 0] 44))) := Lib.hid (by
    have hb : Below w.heap.size w (w.alloc (.cells #[.int .i64 0, .slice none 0 0, .slice none 0 0, .slice none 0 0] 44)) := (Below.refl _ w).alloc (Nat.le_refl _) _
    exact ⟨((Mem.nil (Below.refl _ w)).lay _).rebase (fun _ _ _ => rfl) (Nat.le_refl _), hd.under hb hd.lt, Sep.of_below hb⟩)
  have CB1 := Lib.hid (deck_between (a := 1) (b := C) HM1.out.2.1 (by omega) (by omega) (by omega) (by omega))
  clear hi hz0 hz1 hz2 hd hc hC hR
  go_enter Try.func21, Try.ntmps21
  refine wp_noPanic ?_
  go_wp2_with fail
  generalize w.alloc (.cells #[.int .i64 0, .slice none 0 0, .slice none 0 0, .slice none 0 0] 44) = w1 at HM1 CB1 ⊢
  refine CB1.out.mono ?_
  rintro e w2 ⟨wd, rfl, hwd, hdl⟩
  have HM2 : Hid (Mem w2 w.heap.size [] [] [(w.heap.size, .cells #[.int .i64 0, .slice none 0 0, .slice none 0 0, .slice none 0 0] 44 (0, 0))] w2 ∧ Deck w2 d (c + 1) ∧ Sep (fun x => x = d) w w2) := Lib.hid ⟨HM1.out.1.dealt hdl HCR.out.2.2.1, hdl.1, HM1.out.2.2.from (Sep.of_grown hdl.2.1) (fun k _ e => by cases e; rfl)⟩
  obtain ⟨wd, rfl⟩ : ∃ n : Nat, wd = n := ⟨wd.toNat, by omega⟩
  have HWD : Hid (1 ≤ wd ∧ wd ≤ C) := Lib.hid (by omega)
  clear hdl CB1 HM1 hwd
  go_upto_region 2 with (fail)
  have HM3 : Hid (LnM w d (c + 1) w.heap.size w2.heap.size wd (.slice none 0 0) (.slice none 0 0) (.slice none 0 0) 0 [] [] [] (w2.alloc (.cells #[.int .i64 wd, .slice none 0 0, .slice none 0 0, .slice none 0 0] 44)).drew) := Lib.hid (by
    have hb : Below w2.heap.size w2 (w2.alloc (.cells #[.int .i64 wd, .slice none 0 0, .slice none 0 0, .slice none 0 0] 44)).drew := ((Below.refl _ w2).alloc (Nat.le_refl _) _).drew
    have h1 := HM2.out.2.2.size
    have h2 := HCR.out.2.2.1
    exact ⟨HM2.out.2.1.under hb (by omega), HM2.out.2.2.from (T' := fun _ => False) (Sep.of_below hb) (fun _ _ e => e.elim), ((((HM2.out.1.lay (.cells #[.int .i64 wd, .slice none 0 0, .slice none 0 0, .slice none 0 0] 44)).nilQ 3 1).nilQ 3 1).nilQ 3 1).drew.rebase (fun _ _ _ => rfl) (Nat.le_refl _), h2⟩)
  generalize w2.alloc (.cells #[.int .i64 wd, .slice none 0 0, .slice none 0 0, .slice none 0 0] 44) = w3 at HM3 ⊢
  obtain ⟨q6, hq6⟩ : ∃ q, q = w.heap.size := ⟨_, rfl⟩
  obtain ⟨q7, hq7⟩ : ∃ q, q = w2.heap.size := ⟨_, rfl⟩
  have HQ6 := Lib.hid hq6
  have HM3 : Hid (LnM w d (c + 1) q6 q7 wd (.slice none 0 0) (.slice none 0 0) (.slice none 0 0) 0 [] [] [] w3.drew) := by rw [hq6, hq7]; exact HM3
  rw [← hq7]
  rw [← hq6]
  clear hq6 hq7 HM2
  have CB2 := Lib.hid (deck_between (a := 2) (b := R) HM3.out.dk (by have := HCR.out; omega) (by have := HCR.out; omega) (by have := HCR.out; omega) (by have := HCR.out; omega))
  have hC : (fun W => W.cell? ⟨q7, 0, none⟩ = some (.int .i64 wd)) w3.drew := (HM3.out.me.box4 (t := 44) (List.mem_cons_self)).1
  refine Lim.regC' (fun W => W.cell? ⟨q7, 0, none⟩ = some (.int .i64 wd)) [] #[false, false, false, false, false, false, false] (by kernel_rfl) rfl ?_
  refine Lim.stepR 0 (fun _ => trivial) rfl (by kernel_rfl) (fun _ _ _ _ h => h) hC rfl ?_; apply Exists.intro; refine ⟨?_, ?_⟩
  · rintro w r1; go_simp; try with_reducible rfl
  simp only [Act.put, List.setIfInBounds_toArray, List.set_cons_succ, List.set_cons_zero]
  refine Lim.stepR 1 (fun _ => trivial) rfl (by kernel_rfl) (fun _ _ _ _ h => h) hC rfl ?_; apply Exists.intro; refine ⟨?_, ?_⟩
  · rintro w r1; go_simp; try with_reducible rfl
  simp only [Act.put, List.setIfInBounds_toArray, List.set_cons_succ, List.set_cons_zero]
  refine Lim.stepR 2 (fun _ => trivial) rfl (by kernel_rfl) (fun _ _ _ _ h => h) hC rfl ?_; apply Exists.intro; refine ⟨?_, ?_⟩
  · rintro w r1; go_simp; try with_reducible rfl
  simp only [Act.put, List.setIfInBounds_toArray, List.set_cons_succ, List.set_cons_zero]
  refine Lim.stepR 3 (fun _ => trivial) rfl (by kernel_rfl) (fun _ _ _ _ h => h) hC rfl ?_; apply Exists.intro; refine ⟨?_, ?_⟩
  · rintro w r1; go_simp; try with_reducible rfl
  simp only [Act.put, List.setIfInBounds_toArray, List.set_cons_succ, List.set_cons_zero]
  refine Lim.stepE 4 (fun _ => trivial) rfl (by kernel_rfl) rfl (fun K hK => ?_)   -- E call
  go_simp
  refine ⟨rfl, (callsIn_wide.2 CB2.out).mono ?_⟩
  rintro e w4 ⟨hi, rfl, hhi, hdl⟩
  have HM4 := Lib.hid (HM3.out.dealt hdl)
  have hC4 : (fun W => W.cell? ⟨q7, 0, none⟩ = some (.int .i64 wd)) w4 := (HM4.out.me.box4 (t := 44) (List.mem_cons_self)).1
  obtain ⟨hi, rfl⟩ : ∃ n : Nat, hi = n := ⟨hi.toNat, by omega⟩
  have HHI : Hid (2 ≤ hi ∧ hi ≤ R) := Lib.hid (by omega)
  obtain ⟨n, hn⟩ : ∃ n, n = wd * hi := ⟨_, rfl⟩
  have hn100 : n ≤ 100 := by have := HHI.out; have := HWD.out; have := HCR.out; rw [hn]; exact Nat.mul_le_mul (n₁ := wd) (n₂ := 10) (m₁ := hi) (m₂ := 10) (by omega) (by omega)
  have hmul : (wd : Int) * (hi : Int) = (n : Int) := by rw [hn]; exact (Int.natCast_mul wd hi).symm
  have hw1 : IntKind.i64.wrap ((wd : Int) * (hi : Int)) = (n : Int) := by rw [hmul]; exact IntWalk.i64_in _ (by omega)
  have HN := Lib.hid hn
  refine hK _ _ hC4 ?_
  clear hdl hhi hn hmul
  simp only [Act.put, List.setIfInBounds_toArray, List.set_cons_succ, List.set_cons_zero]
  refine Lim.stepR 5 (fun _ => trivial) rfl (by kernel_rfl) (fun _ _ _ _ h => h) hC4 rfl ?_; apply Exists.intro; refine ⟨?_, ?_⟩
  · rintro w r1; go_simp; try with_reducible rfl
  simp only [Act.put, List.setIfInBounds_toArray, List.set_cons_succ, List.set_cons_zero]
  refine Lim.stepR 6 (fun _ => trivial) rfl (by kernel_rfl) (fun _ _ _ _ h => h) hC4 rfl ?_; apply Exists.intro; refine ⟨?_, ?_⟩
  · rintro w r1; go_simp; try with_reducible rfl
  simp only [Act.put, List.setIfInBounds_toArray, List.set_cons_succ, List.set_cons_zero]
  refine Lim.stepD (by kernel_rfl) ?_
  clear hC hC4 CB2
  go_wp2_with fail
  clear hw1
  go_loopw [24] (fun iv W => ∃ t : Nat, t ≤ n ∧ iv = .int .i64 t ∧ ∃ (v1 v2 v3 : Value) (os es ss : List Int) (c' : Nat), Hid (PlL wd n t os es ss ∧ c' ≤ c + 2 + 4 * t) ∧ Hid (LnM w d c' q6 q7 wd v1 v2 v3 t os es ss W)) (fun iv _ => n - (intOf iv).toNat)
  case atStart => exact ⟨0, Nat.zero_le _, rfl, _, _, _, [], [], [], _, Lib.hid ⟨⟨rfl, rfl, rfl, fun k hk => absurd hk (Nat.not_lt_zero _), fun k hk => absurd hk (Nat.not_lt_zero _), fun k hk => absurd hk (Nat.not_lt_zero _), fun k hk => absurd hk (Nat.not_lt_zero _), fun k hk => absurd hk (Nat.not_lt_zero _)⟩, Nat.le_refl _⟩, HM4⟩
  case round =>
    clear HM4
    obtain ⟨t, ht, rfl, v1, v2, v3, os, es, ss, c', HP, HM⟩ := hrel
    by_cases hlt : t < n
    · have ht64 : (t : Int) < n := by omega
      have HCB : Hid (c' + 10 ≤ 10000) := Lib.hid (by have := HP.out.2; have := HCR.out; omega)
      have HT : Hid (t < 100) := Lib.hid (by omega)
      have CC := Lib.hid (deck_coin (n := 4) HM.out.dk (by have := HCB.out; omega))
      go_wp2_with fail
      refine CC.out.mono ?_
      rintro e w6 ⟨bc, rfl, hdl⟩
      have HM6 := Lib.hid (HM.out.dealt hdl)
      clear hdl CC HM
      go_upto_if 28 with (fail)
      go_cut [10] from 28 to 30 (fun s10 wc => ∃ (o : Int) (c1 : Nat), s10 = .int .i64 o ∧ Hid ((-1 ≤ o ∧ o ≤ 1) ∧ c1 ≤ c' + 2) ∧ Hid (LnM w d c1 q6 q7 wd v1 v2 v3 t os es ss wc))
      case first =>
        cases bc with
        | true =>
          have CD := Lib.hid (deck_draw (n := 2) HM6.out.dk (by have := HCB.out; omega))
          go_wp2_with fail
          refine CD.out.mono ?_
          rintro e w7 ⟨x, rfl, hx, hdl⟩
          have HM7 := Lib.hid (HM6.out.dealt hdl)
          have HX : Hid (0 ≤ x ∧ x ≤ 1) := Lib.hid ⟨hx.2.1, by have := hx.2.2 (by omega); omega⟩
          clear hdl hx CD
          go_wp2
          go_meet
          case rel => exact ⟨_, _, rfl, Lib.hid ⟨by have := HX.out; omega, Nat.le_refl _⟩, HM7⟩
        | false =>
          go_wp2
          go_meet
          case rel => exact ⟨_, _, rfl, Lib.hid ⟨by omega, by omega⟩, HM6⟩
      case rest =>
        obtain ⟨o, c1, rfl, HO1, HM7⟩ := hcut
        clear HM6
        have CD := Lib.hid (deck_draw (n := 12) HM7.out.dk (by have := HCB.out; have := HO1.out; omega))
        go_wp2_with fail
        refine CD.out.mono ?_
        rintro e w7 ⟨x, rfl, hx, hdl⟩
        have HM8 := Lib.hid (HM7.out.dealt hdl)
        have HX : Hid (0 ≤ x ∧ x ≤ 11) := Lib.hid ⟨hx.2.1, by have := hx.2.2 (by omega); omega⟩
        clear hdl hx CD HM7
        have CD := Lib.hid (deck_draw (n := 12) HM8.out.dk (by have := HCB.out; have := HO1.out; omega))
        go_wp2_with fail
        refine CD.out.mono ?_
        rintro e w8 ⟨y, rfl, hy, hdl⟩
        have HY : Hid (0 ≤ y ∧ y ≤ 11) := Lib.hid ⟨hy.2.1, by have := hy.2.2 (by omega); omega⟩
        have HO : Hid ((-1 ≤ o ∧ o ≤ 1) ∧ c1 + 2 ≤ c' + 4) := Lib.hid ⟨HO1.out.1, by have := HO1.out.2; omega⟩
        replace HM8 : Hid (LnM w d (c1 + 1 + 1) q6 q7 wd v1 v2 v3 t os es ss w8.drew) := Lib.hid ((HM8.out.dealt hdl).below (Below.refl _ _).drew)
        clear hdl hy CD HO1
        obtain ⟨cx, hx⟩ : ∃ x, x = t % wd := ⟨_, rfl⟩
        have e5 : (t : Int).tmod (wd : Int) = (cx : Int) := by rw [hx]; exact (Int.ofNat_tmod t wd).symm
        have hxw : cx < wd := by rw [hx]; exact Nat.mod_lt _ (by have := HWD.out; omega)
        have hwn : ¬ wd = 0 := by have := HWD.out; omega
        have hwd10 : wd ≤ 10 := by have := HWD.out; have := HCR.out; omega
        have hz1 : IntKind.i64.wrap ((wd : Int) - 1) = (wd : Int) - 1 := IntWalk.i64_in _ (by omega)
        have HCX := Lib.hid hx
        clear hx
        have hC10 : (fun W => W.cell? ⟨q7, 0, none⟩ = some (.int .i64 wd)) w8.drew := (HM8.out.me.box4 (t := 44) (List.mem_cons_self)).1
        go_upto_region 10 with (fail)
        refine Lim.regC' (fun W => W.cell? ⟨q7, 0, none⟩ = some (.int .i64 wd)) [] #[false, false, false, false, false, false, false, false] (by kernel_rfl) rfl ?_
        refine Lim.stepR 0 (fun _ => trivial) rfl (by kernel_rfl) (fun _ _ _ _ h => h) hC10 rfl ?_; apply Exists.intro; refine ⟨?_, ?_⟩
        · rintro w r1; go_simp; try with_reducible rfl
        simp only [Act.put, List.setIfInBounds_toArray, List.set_cons_succ, List.set_cons_zero]
        refine Lim.stepR 1 (fun _ => trivial) rfl (by kernel_rfl) (fun _ _ _ _ h => h) hC10 rfl ?_; apply Exists.intro; refine ⟨?_, ?_⟩
        · rintro w r1; go_simp; try with_reducible rfl
        simp only [Act.put, List.setIfInBounds_toArray, List.set_cons_succ, List.set_cons_zero]
        refine Lim.stepR 2 (fun _ => trivial) rfl (by kernel_rfl) (fun _ _ _ _ h => h) hC10 rfl ?_; apply Exists.intro; refine ⟨?_, ?_⟩
        · rintro w r1; go_simp; try with_reducible rfl
        simp only [Act.put, List.setIfInBounds_toArray, List.set_cons_succ, List.set_cons_zero]
        refine Lim.stepR 3 (fun _ => trivial) rfl (by kernel_rfl) (fun _ _ _ _ h => h) hC10 rfl ?_; apply Exists.intro; refine ⟨?_, ?_⟩
        · rintro w r1; go_simp; try with_reducible rfl
        simp only [Act.put, List.setIfInBounds_toArray, List.set_cons_succ, List.set_cons_zero]
        refine Lim.stepR 4 (fun _ => trivial) rfl (by kernel_rfl) (fun _ _ _ _ h => h) hC10 rfl ?_; apply Exists.intro; refine ⟨?_, ?_⟩
        · rintro w r1; go_simp; try with_reducible rfl
        simp only [Act.put, List.setIfInBounds_toArray, List.set_cons_succ, List.set_cons_zero]
        refine Lim.stepR 5 (fun _ => trivial) rfl (by kernel_rfl) (fun _ _ _ _ h => h) hC10 rfl ?_; apply Exists.intro; refine ⟨?_, ?_⟩
        · rintro w r1; go_simp; try with_reducible rfl
        simp only [Act.put, List.setIfInBounds_toArray, List.set_cons_succ, List.set_cons_zero]
        refine Lim.stepR 6 (fun _ => trivial) rfl (by kernel_rfl) (fun _ _ _ _ h => h) hC10 rfl ?_; apply Exists.intro; refine ⟨?_, ?_⟩
        · rintro w r1; go_simp; try with_reducible rfl
        simp only [Act.put, List.setIfInBounds_toArray, List.set_cons_succ, List.set_cons_zero]
        refine Lim.stepR 7 (fun _ => trivial) rfl (by kernel_rfl) (fun _ _ _ _ h => h) hC10 rfl ?_; apply Exists.intro; refine ⟨?_, ?_⟩
        · rintro w r1; go_simp; try with_reducible rfl
        simp only [Act.put, List.setIfInBounds_toArray, List.set_cons_succ, List.set_cons_zero]
        refine Lim.stepD (by kernel_rfl) ?_
        clear hC10 e5 hz1
        generalize w8.drew = w9 at HM8 ⊢
        go_upto_if 42 with (fail)
        go_cut [11] from 42 to 42 (fun s11 wc => ∃ (ea : Int), s11 = .int .i64 ea ∧ Hid (0 ≤ ea ∧ ea ≤ 11 ∧ (t % wd + 1 = wd → ea = 0)) ∧ Hid (LnM w d (c1 + 1 + 1) q6 q7 wd v1 v2 v3 t os es ss wc))
        case first =>
          by_cases e : cx + 1 = wd
          · have g1 : ((cx : Int) == (wd : Int) - 1) = true := by simp; omega
            clear e
            go_wp2
            go_meet
            case rel => exact ⟨0, rfl, Lib.hid ⟨by omega, by omega, fun _ => rfl⟩, HM8⟩
          · have g1 : ((cx : Int) == (wd : Int) - 1) = false := by rw [beq_eq_false_iff_ne]; omega
            have HE := Lib.hid e
            clear e
            go_wp2
            go_meet
            case rel => exact ⟨x, rfl, Lib.hid ⟨HX.out.1, HX.out.2, fun h => absurd (by rw [HCX.out]; exact h) HE.out⟩, HM8⟩
        case rest =>
          obtain ⟨ea, rfl, HEA, HM9⟩ := hcut
          clear HM8 HX
          have hw2 : IntKind.i64.wrap ((t : Int) + (wd : Int)) = (t : Int) + (wd : Int) := IntWalk.i64_in _ (by have := HT.out; omega)
          obtain ⟨b0, -⟩ := HM9.out.me.box4 (t := 44) (List.mem_cons_self)
          go_upto_if 48 with (fail)
          obtain ⟨bb, hbb⟩ : ∃ bb, bb = decide ((n : Int) ≤ (t : Int) + (wd : Int)) := ⟨_, rfl⟩
          rw [← hbb]
          have HBB := Lib.hid hbb
          clear hbb
          go_cut [12] from 43 to 48 (fun s12 wc => ∃ (sa : Int), s12 = .int .i64 sa ∧ Hid (0 ≤ sa ∧ sa ≤ 11 ∧ (n ≤ t + wd → sa = 0)) ∧ Hid (LnM w d (c1 + 1 + 1) q6 q7 wd v1 v2 v3 t os es ss wc))
          case first =>
            cases bb with
            | true =>
              go_wp2
              go_meet
              case rel => exact ⟨0, rfl, Lib.hid ⟨by omega, by omega, fun _ => rfl⟩, HM9⟩
            | false =>
              go_wp2
              go_meet
              case rel => exact ⟨y, rfl, Lib.hid ⟨HY.out.1, HY.out.2, fun h => absurd HBB.out (by simp; omega)⟩, HM9⟩
          case rest =>
            obtain ⟨sa, rfl, HSA, HM10⟩ := hcut
            clear HM9 HY b0 hw2
            go_upto_region 14 with (fail)
            have HM8 : Hid (LnM w d (c1 + 1 + 1) q6 q7 wd v1 v2 v3 t os es ss wc.drew) := Lib.hid (HM10.out.below (Below.refl _ _).drew)
            clear HM10
            obtain ⟨b0, b1, b2, b3⟩ := HM8.out.me.box4 (t := 44) (List.mem_cons_self)
            have hC : (fun W => W.cell? ⟨q7, 1, none⟩ = some v1 ∧ W.cell? ⟨q7, 2, none⟩ = some v2 ∧ W.cell? ⟨q7, 3, none⟩ = some v3) wc.drew := ⟨b1, b2, b3⟩
            clear b0 b1 b2 b3
            refine Lim.regC' (fun W => W.cell? ⟨q7, 1, none⟩ = some v1 ∧ W.cell? ⟨q7, 2, none⟩ = some v2 ∧ W.cell? ⟨q7, 3, none⟩ = some v3) [16, 18, 20] #[false, false, false, false, false, false, false, false, false, false, false, false, false, false, false, false, false, false, false, false, false] (by kernel_rfl) rfl ?_
            generalize wc.drew = W0 at HM8 hC ⊢
            refine Lim.stepR 0 (fun _ => trivial) rfl (by kernel_rfl) (fun _ _ _ _ h => h) hC rfl ?_; apply Exists.intro; refine ⟨?_, ?_⟩
            · rintro w ⟨r1, r2, r3⟩; go_simp; try with_reducible rfl
            simp only [Act.put, List.setIfInBounds_toArray, List.set_cons_succ, List.set_cons_zero]
            refine Lim.stepR 1 (fun _ => trivial) rfl (by kernel_rfl) (fun _ _ _ _ h => h) hC rfl ?_; apply Exists.intro; refine ⟨?_, ?_⟩
            · rintro w ⟨r1, r2, r3⟩; go_simp; try with_reducible rfl
            simp only [Act.put, List.setIfInBounds_toArray, List.set_cons_succ, List.set_cons_zero]
            refine Lim.stepR 2 (fun _ => trivial) rfl (by kernel_rfl) (fun _ _ _ _ h => h) hC rfl ?_; apply Exists.intro; refine ⟨?_, ?_⟩
            · rintro w ⟨r1, r2, r3⟩; go_simp; try with_reducible rfl
            simp only [Act.put, List.setIfInBounds_toArray, List.set_cons_succ, List.set_cons_zero]
            refine Lim.stepR 5 (fun _ => trivial) rfl (by kernel_rfl) (fun _ _ _ _ h => h) hC rfl ?_; apply Exists.intro; refine ⟨?_, ?_⟩
            · rintro w ⟨r1, r2, r3⟩; go_simp; try with_reducible rfl
            simp only [Act.put, List.setIfInBounds_toArray, List.set_cons_succ, List.set_cons_zero]
            refine Lim.stepR 6 (fun _ => trivial) rfl (by kernel_rfl) (fun _ _ _ _ h => h) hC rfl ?_; apply Exists.intro; refine ⟨?_, ?_⟩
            · rintro w ⟨r1, r2, r3⟩; go_simp; try with_reducible rfl
            simp only [Act.put, List.setIfInBounds_toArray, List.set_cons_succ, List.set_cons_zero]
            refine Lim.stepR 7 (fun _ => trivial) rfl (by kernel_rfl) (fun _ _ _ _ h => h) hC rfl ?_; apply Exists.intro; refine ⟨?_, ?_⟩
            · rintro w ⟨r1, r2, r3⟩; go_simp; try with_reducible rfl
            simp only [Act.put, List.setIfInBounds_toArray, List.set_cons_succ, List.set_cons_zero]
            refine Lim.stepR 10 (fun _ => trivial) rfl (by kernel_rfl) (fun _ _ _ _ h => h) hC rfl ?_; apply Exists.intro; refine ⟨?_, ?_⟩
            · rintro w ⟨r1, r2, r3⟩; go_simp; try with_reducible rfl
            simp only [Act.put, List.setIfInBounds_toArray, List.set_cons_succ, List.set_cons_zero]
            refine Lim.stepR 11 (fun _ => trivial) rfl (by kernel_rfl) (fun _ _ _ _ h => h) hC rfl ?_; apply Exists.intro; refine ⟨?_, ?_⟩
            · rintro w ⟨r1, r2, r3⟩; go_simp; try with_reducible rfl
            simp only [Act.put, List.setIfInBounds_toArray, List.set_cons_succ, List.set_cons_zero]
            refine Lim.stepR 12 (fun _ => trivial) rfl (by kernel_rfl) (fun _ _ _ _ h => h) hC rfl ?_; apply Exists.intro; refine ⟨?_, ?_⟩
            · rintro w ⟨r1, r2, r3⟩; go_simp; try with_reducible rfl
            simp only [Act.put, List.setIfInBounds_toArray, List.set_cons_succ, List.set_cons_zero]
            clear hC
            have HW0 : Hid (Mem W0 w.heap.size [] ([rwI v1 t os, rwI v2 t es, rwI v3 t ss] ++ []) [(q7, Obj.cells #[.int .i64 wd, v1, v2, v3] 44 (0, 0)), (q6, Obj.cells #[.int .i64 0, .slice none 0 0, .slice none 0 0, .slice none 0 0] 44 (0, 0))] W0) := Lib.hid (by simpa using HM8.out.me)
            refine Lim.parE [3, 4, 8, 9, 13, 14, 15, 16, 17, 18, 19, 20] (fun done a W => ∃ x52 x53 x57 x58 x62 x63 x64 x65 x66, a = { tmps := #[.pointer (some ⟨d, 0, none⟩), .int .i64 C, .int .i64 R, undef, undef, undef, .pointer (some ⟨q6, 0, none⟩), .pointer (some ⟨q7, 0, none⟩), .int .i64 n, .int .i64 t, .int .i64 o, .int .i64 ea, .int .i64 sa, .pointer (some ⟨d, 0, none⟩), .int .i64 C, .int .i64 wd, .agg #[.int .i64 wd, .slice none 0 0, .slice none 0 0, .slice none 0 0], .pointer (some ⟨q7, 0, none⟩), .int .i64 wd, .pointer (some ⟨d, 0, none⟩), .int .i64 R, .int .i64 hi, .int .i64 n, .int .i64 n, .int .i64 t, .bool true, .int .i64 t, .pointer (some ⟨d, 0, none⟩), u28, u29, u30, .pointer (some ⟨d, 0, none⟩), .int .i64 x, .pointer (some ⟨d, 0, none⟩), .int .i64 y, .int .i64 t, .pointer (some ⟨q7, 0, none⟩), .int .i64 wd, .int .i64 cx, .pointer (some ⟨q7, 0, none⟩), .int .i64 wd, .int .i64 (wd - 1), u42, u43, u44, u45, u46, u47, u48, .pointer (some ⟨q7, 1, none⟩), v1, .int .i64 o, x52, x53, .pointer (some ⟨q7, 2, none⟩), v2, .int .i64 ea, x57, x58, .pointer (some ⟨q7, 3, none⟩), v3, .int .i64 sa, x62, x63, x64, x65, x66, u67, undef, undef, undef, undef, undef, undef, undef, undef, undef], defers := [] } ∧ Mem W0 w.heap.size [] ([cond (done 4) (rwI x53 (t + 1) (os ++ [o])) (rwI v1 t os), cond (done 9) (rwI x58 (t + 1) (es ++ [ea])) (rwI v2 t es), cond (done 14) (rwI x63 (t + 1) (ss ++ [sa])) (rwI v3 t ss)] ++ (onR (done 3) (rwI x52 1 [o]) ++ (onR (done 8) (rwI x57 1 [ea]) ++ onR (done 13) (rwI x62 1 [sa])))) [(q7, Obj.cells #[.int .i64 wd, cond (done 16) x53 v1, cond (done 18) x58 v2, cond (done 20) x63 v3] 44 (0, 0)), (q6, Obj.cells #[.int .i64 0, .slice none 0 0, .slice none 0 0, .slice none 0 0] 44 (0, 0))] W ∧ (done 15 = true → x64 = .pointer (some ⟨q7, 1, none⟩)) ∧ (done 17 = true → x65 = .pointer (some ⟨q7, 2, none⟩)) ∧ (done 19 = true → x66 = .pointer (some ⟨q7, 3, none⟩)) ∧ (done 16 = true → done 4 = true) ∧ (done 18 = true → done 9 = true) ∧ (done 20 = true → done 14 = true) ∧ (done 4 = true → done 3 = true) ∧ (done 9 = true → done 8 = true) ∧ (done 14 = true → done 13 = true)) (fun _ => trivial) (by kernel_rfl) rfl ?hC ?step ?fin ⟨_, _, _, _, _, _, _, _, _, rfl, HW0.out, fun h => (by cases h), fun h => (by cases h), fun h => (by cases h), fun h => (by cases h), fun h => (by cases h), fun h => (by cases h), fun h => (by cases h), fun h => (by cases h), fun h => (by cases h)⟩
            case hC =>
              rintro done a W ⟨x52, x53, x57, x58, x62, x63, x64, x65, x66, rfl, H, e15, e17, e19, e16, e18, e20, e4, e9, e14⟩ hE
              rw [hE 16 (by simp), hE 18 (by simp), hE 20 (by simp)] at H
              obtain ⟨b0, b1, b2, b3⟩ := H.box4 (q := q7) (t := 44) (List.mem_cons_self)
              exact ⟨b1, b2, b3⟩
            case step =>
              intro i o hi ho done a W hd hdep hS K hK
              obtain ⟨x52, x53, x57, x58, x62, x63, x64, x65, x66, rfl, H, e15, e17, e19, e16, e18, e20, e4, e9, e14⟩ := hS
              simp only [List.mem_cons, List.not_mem_nil, or_false] at hi
              rcases hi with rfl | rfl | rfl | rfl | rfl | rfl | rfl | rfl | rfl | rfl | rfl | rfl
              · cases ho
                clear hdep
                have n4 : done 4 = false := by
                  cases h : done 4 with
                  | false => rfl
                  | true => exact absurd (e4 h) (by rw [hd]; decide)
                rw [onR_no hd] at H
                go_simp
                refine hK _ _ ?_
                have H2 := Mem.insQs (Q1 := [cond (done 4) (rwI x53 (t + 1) (os ++ [o])) (rwI v1 t os), cond (done 9) (rwI x58 (t + 1) (es ++ [ea])) (rwI v2 t es), cond (done 14) (rwI x63 (t + 1) (ss ++ [sa])) (rwI v3 t ss)]) (P := [rwI (.slice (some ⟨W.heap.size, 0, none⟩) 1 1) 1 [o]]) H ((Below.refl _ W).alloc (Nat.le_refl _) _) (fun r hr => by rw [List.mem_singleton.1 hr]; exact one_owned W o) (List.pairwise_singleton _ _)
                refine ⟨_, x53, x57, x58, x62, x63, x64, x65, x66, rfl, ?_, (fun h => by simpa using e15 (by simpa using h)), (fun h => by simpa using e17 (by simpa using h)), (fun h => by simpa using e19 (by simpa using h)), (fun h => by simpa using e16 (by simpa using h)), (fun h => by simpa using e18 (by simpa using h)), (fun h => by simpa using e20 (by simpa using h)), (fun _ => by simp), (fun h => by simpa using e9 (by simpa using h)), (fun h => by simpa using e14 (by simpa using h))⟩
                show Mem W0 w.heap.size [] ([cond (done 4) (rwI x53 (t + 1) (os ++ [o])) (rwI v1 t os), cond (done 9) (rwI x58 (t + 1) (es ++ [ea])) (rwI v2 t es), cond (done 14) (rwI x63 (t + 1) (ss ++ [sa])) (rwI v3 t ss)] ++ (onR (true) (rwI (.slice (some ⟨W.heap.size, 0, none⟩) 1 1) 1 [o]) ++ (onR (done 8) (rwI x57 1 [ea]) ++ onR (done 13) (rwI x62 1 [sa])))) [(q7, Obj.cells #[.int .i64 wd, cond (done 16) x53 v1, cond (done 18) x58 v2, cond (done 20) x63 v3] 44 (0, 0)), (q6, Obj.cells #[.int .i64 0, .slice none 0 0, .slice none 0 0, .slice none 0 0] 44 (0, 0))] (W.alloc (.cells #[.int .i64 o] 3))
                exact H2
              · cases ho
                have h1 := hdep 3 (by kernel_rfl) (by simp)
                clear hdep
                have n16 : done 16 = false := by
                  cases h : done 16 with
                  | false => rfl
                  | true => exact absurd (e16 h) (by rw [hd]; decide)
                obtain ⟨gb, kb, rfl⟩ : ∃ g cap, x52 = .slice (some ⟨g, 0, none⟩) 1 cap := form_pos (r := rwI x52 1 [o]) (H.q _ (by rw [onR_yes h1]; simp)) (show 0 < 1 by decide)
                have o3 := H.q (rwI (.slice (some ⟨gb, 0, none⟩) 1 kb) 1 [o]) (by rw [onR_yes h1]; simp)
                rw [hd] at H
                have o0 : W.ownsRow w.heap.size 3 1 v1 t (ints os) := H.q (rwI v1 t os) (by simp)
                obtain ⟨v', W', hrun, hown, hgrow, -, hat⟩ := run_append_own_at (P := Try.prog) W w.heap.size 22 22 3 i0 (.int .i64 0) 1 8 Try.underlying22 HF.out.1 HF.out.2.1 HF.out.2.2.1 HF.out.2.2.2 rfl (by decide) v1 t (ints os) o0 ⟨gb, 0, none⟩ 1 kb [.int .i64 o] rfl (fun j u hj => World.ownsRow.cells o3 (g := gb) rfl j u hj) (by simp [Value.oneCell']) (by have := HT.out; unfold maxLen; omega) (by have := HT.out; omega) H.o
                refine Lim.append_upon rfl rfl rfl hrun (hK _ _ ?_)
                simp only [Act.put, List.setIfInBounds_toArray, List.set_cons_succ, List.set_cons_zero]
                have H2 := Mem.push (Q1 := []) (Q2 := ([cond (done 9) (rwI x58 (t + 1) (es ++ [ea])) (rwI v2 t es), cond (done 14) (rwI x63 (t + 1) (ss ++ [sa])) (rwI v3 t ss)] ++ (onR (done 3) (rwI (.slice (some ⟨gb, 0, none⟩) 1 kb) 1 [o]) ++ (onR (done 8) (rwI x57 1 [ea]) ++ onR (done 13) (rwI x62 1 [sa]))))) (v := v1) (n := t) (l := os) (x := o) (by simpa using H) hown hgrow hat
                refine ⟨_, _, x57, x58, x62, x63, x64, x65, x66, rfl, ?_, (fun h => by simpa using e15 (by simpa using h)), (fun h => by simpa using e17 (by simpa using h)), (fun h => by simpa using e19 (by simpa using h)), (fun h => absurd (show done 16 = true by simpa using h) (by rw [n16]; decide)), (fun h => by simpa using e18 (by simpa using h)), (fun h => by simpa using e20 (by simpa using h)), (fun _ => by simpa using h1), (fun h => by simpa using e9 (by simpa using h)), (fun h => by simpa using e14 (by simpa using h))⟩
                show Mem W0 w.heap.size [] ([cond (true) (rwI v' (t + 1) (os ++ [o])) (rwI v1 t os), cond (done 9) (rwI x58 (t + 1) (es ++ [ea])) (rwI v2 t es), cond (done 14) (rwI x63 (t + 1) (ss ++ [sa])) (rwI v3 t ss)] ++ (onR (done 3) (rwI (.slice (some ⟨gb, 0, none⟩) 1 kb) 1 [o]) ++ (onR (done 8) (rwI x57 1 [ea]) ++ onR (done 13) (rwI x62 1 [sa])))) [(q7, Obj.cells #[.int .i64 wd, cond (done 16) v' v1, cond (done 18) x58 v2, cond (done 20) x63 v3] 44 (0, 0)), (q6, Obj.cells #[.int .i64 0, .slice none 0 0, .slice none 0 0, .slice none 0 0] 44 (0, 0))] W'
                simpa [n16] using H2
              · cases ho
                clear hdep
                have n9 : done 9 = false := by
                  cases h : done 9 with
                  | false => rfl
                  | true => exact absurd (e9 h) (by rw [hd]; decide)
                rw [onR_no hd] at H
                rw [← List.append_assoc] at H
                go_simp
                refine hK _ _ ?_
                have H2 := Mem.insQs (Q1 := [cond (done 4) (rwI x53 (t + 1) (os ++ [o])) (rwI v1 t os), cond (done 9) (rwI x58 (t + 1) (es ++ [ea])) (rwI v2 t es), cond (done 14) (rwI x63 (t + 1) (ss ++ [sa])) (rwI v3 t ss)] ++ onR (done 3) (rwI x52 1 [o])) (P := [rwI (.slice (some ⟨W.heap.size, 0, none⟩) 1 1) 1 [ea]]) H ((Below.refl _ W).alloc (Nat.le_refl _) _) (fun r hr => by rw [List.mem_singleton.1 hr]; exact one_owned W ea) (List.pairwise_singleton _ _)
                rw [List.append_assoc] at H2
                refine ⟨x52, x53, _, x58, x62, x63, x64, x65, x66, rfl, ?_, (fun h => by simpa using e15 (by simpa using h)), (fun h => by simpa using e17 (by simpa using h)), (fun h => by simpa using e19 (by simpa using h)), (fun h => by simpa using e16 (by simpa using h)), (fun h => by simpa using e18 (by simpa using h)), (fun h => by simpa using e20 (by simpa using h)), (fun h => by simpa using e4 (by simpa using h)), (fun _ => by simp), (fun h => by simpa using e14 (by simpa using h))⟩
                show Mem W0 w.heap.size [] ([cond (done 4) (rwI x53 (t + 1) (os ++ [o])) (rwI v1 t os), cond (done 9) (rwI x58 (t + 1) (es ++ [ea])) (rwI v2 t es), cond (done 14) (rwI x63 (t + 1) (ss ++ [sa])) (rwI v3 t ss)] ++ (onR (done 3) (rwI x52 1 [o]) ++ (onR (true) (rwI (.slice (some ⟨W.heap.size, 0, none⟩) 1 1) 1 [ea]) ++ onR (done 13) (rwI x62 1 [sa])))) [(q7, Obj.cells #[.int .i64 wd, cond (done 16) x53 v1, cond (done 18) x58 v2, cond (done 20) x63 v3] 44 (0, 0)), (q6, Obj.cells #[.int .i64 0, .slice none 0 0, .slice none 0 0, .slice none 0 0] 44 (0, 0))] (W.alloc (.cells #[.int .i64 ea] 3))
                exact H2
              · cases ho
                have h1 := hdep 8 (by kernel_rfl) (by simp)
                clear hdep
                have n18 : done 18 = false := by
                  cases h : done 18 with
                  | false => rfl
                  | true => exact absurd (e18 h) (by rw [hd]; decide)
                obtain ⟨gb, kb, rfl⟩ : ∃ g cap, x57 = .slice (some ⟨g, 0, none⟩) 1 cap := form_pos (r := rwI x57 1 [ea]) (H.q _ (by rw [onR_yes h1]; simp)) (show 0 < 1 by decide)
                have o3 := H.q (rwI (.slice (some ⟨gb, 0, none⟩) 1 kb) 1 [ea]) (by rw [onR_yes h1]; simp)
                rw [hd] at H
                have o0 : W.ownsRow w.heap.size 3 1 v2 t (ints es) := H.q (rwI v2 t es) (by simp)
                obtain ⟨v', W', hrun, hown, hgrow, -, hat⟩ := run_append_own_at (P := Try.prog) W w.heap.size 22 22 3 i0 (.int .i64 0) 1 8 Try.underlying22 HF.out.1 HF.out.2.1 HF.out.2.2.1 HF.out.2.2.2 rfl (by decide) v2 t (ints es) o0 ⟨gb, 0, none⟩ 1 kb [.int .i64 ea] rfl (fun j u hj => World.ownsRow.cells o3 (g := gb) rfl j u hj) (by simp [Value.oneCell']) (by have := HT.out; unfold maxLen; omega) (by have := HT.out; omega) H.o
                refine Lim.append_upon rfl rfl rfl hrun (hK _ _ ?_)
                simp only [Act.put, List.setIfInBounds_toArray, List.set_cons_succ, List.set_cons_zero]
                have H2 := Mem.push (Q1 := [cond (done 4) (rwI x53 (t + 1) (os ++ [o])) (rwI v1 t os)]) (Q2 := ([cond (done 14) (rwI x63 (t + 1) (ss ++ [sa])) (rwI v3 t ss)] ++ (onR (done 3) (rwI x52 1 [o]) ++ (onR (done 8) (rwI (.slice (some ⟨gb, 0, none⟩) 1 kb) 1 [ea]) ++ onR (done 13) (rwI x62 1 [sa]))))) (v := v2) (n := t) (l := es) (x := ea) (by simpa using H) hown hgrow hat
                refine ⟨x52, x53, _, _, x62, x63, x64, x65, x66, rfl, ?_, (fun h => by simpa using e15 (by simpa using h)), (fun h => by simpa using e17 (by simpa using h)), (fun h => by simpa using e19 (by simpa using h)), (fun h => by simpa using e16 (by simpa using h)), (fun h => absurd (show done 18 = true by simpa using h) (by rw [n18]; decide)), (fun h => by simpa using e20 (by simpa using h)), (fun h => by simpa using e4 (by simpa using h)), (fun _ => by simpa using h1), (fun h => by simpa using e14 (by simpa using h))⟩
                show Mem W0 w.heap.size [] ([cond (done 4) (rwI x53 (t + 1) (os ++ [o])) (rwI v1 t os), cond (true) (rwI v' (t + 1) (es ++ [ea])) (rwI v2 t es), cond (done 14) (rwI x63 (t + 1) (ss ++ [sa])) (rwI v3 t ss)] ++ (onR (done 3) (rwI x52 1 [o]) ++ (onR (done 8) (rwI (.slice (some ⟨gb, 0, none⟩) 1 kb) 1 [ea]) ++ onR (done 13) (rwI x62 1 [sa])))) [(q7, Obj.cells #[.int .i64 wd, cond (done 16) x53 v1, cond (done 18) v' v2, cond (done 20) x63 v3] 44 (0, 0)), (q6, Obj.cells #[.int .i64 0, .slice none 0 0, .slice none 0 0, .slice none 0 0] 44 (0, 0))] W'
                simpa [n18] using H2
              · cases ho
                clear hdep
                have n14 : done 14 = false := by
                  cases h : done 14 with
                  | false => rfl
                  | true => exact absurd (e14 h) (by rw [hd]; decide)
                rw [onR_no hd] at H
                rw [List.append_nil] at H
                rw [show ([cond (done 4) (rwI x53 (t + 1) (os ++ [o])) (rwI v1 t os), cond (done 9) (rwI x58 (t + 1) (es ++ [ea])) (rwI v2 t es), cond (done 14) (rwI x63 (t + 1) (ss ++ [sa])) (rwI v3 t ss)] ++ (onR (done 3) (rwI x52 1 [o]) ++ onR (done 8) (rwI x57 1 [ea]))) = ([cond (done 4) (rwI x53 (t + 1) (os ++ [o])) (rwI v1 t os), cond (done 9) (rwI x58 (t + 1) (es ++ [ea])) (rwI v2 t es), cond (done 14) (rwI x63 (t + 1) (ss ++ [sa])) (rwI v3 t ss)] ++ (onR (done 3) (rwI x52 1 [o]) ++ onR (done 8) (rwI x57 1 [ea]))) ++ [] from (List.append_nil _).symm] at H
                go_simp
                refine hK _ _ ?_
                have H2 := Mem.insQs (Q1 := [cond (done 4) (rwI x53 (t + 1) (os ++ [o])) (rwI v1 t os), cond (done 9) (rwI x58 (t + 1) (es ++ [ea])) (rwI v2 t es), cond (done 14) (rwI x63 (t + 1) (ss ++ [sa])) (rwI v3 t ss)] ++ (onR (done 3) (rwI x52 1 [o]) ++ onR (done 8) (rwI x57 1 [ea]))) (P := [rwI (.slice (some ⟨W.heap.size, 0, none⟩) 1 1) 1 [sa]]) H ((Below.refl _ W).alloc (Nat.le_refl _) _) (fun r hr => by rw [List.mem_singleton.1 hr]; exact one_owned W sa) (List.pairwise_singleton _ _)
                rw [List.append_assoc ([cond (done 4) (rwI x53 (t + 1) (os ++ [o])) (rwI v1 t os), cond (done 9) (rwI x58 (t + 1) (es ++ [ea])) (rwI v2 t es), cond (done 14) (rwI x63 (t + 1) (ss ++ [sa])) (rwI v3 t ss)]), List.append_assoc (onR (done 3) (rwI x52 1 [o])) (onR (done 8) (rwI x57 1 [ea]))] at H2
                refine ⟨x52, x53, x57, x58, _, x63, x64, x65, x66, rfl, ?_, (fun h => by simpa using e15 (by simpa using h)), (fun h => by simpa using e17 (by simpa using h)), (fun h => by simpa using e19 (by simpa using h)), (fun h => by simpa using e16 (by simpa using h)), (fun h => by simpa using e18 (by simpa using h)), (fun h => by simpa using e20 (by simpa using h)), (fun h => by simpa using e4 (by simpa using h)), (fun h => by simpa using e9 (by simpa using h)), (fun _ => by simp)⟩
                show Mem W0 w.heap.size [] ([cond (done 4) (rwI x53 (t + 1) (os ++ [o])) (rwI v1 t os), cond (done 9) (rwI x58 (t + 1) (es ++ [ea])) (rwI v2 t es), cond (done 14) (rwI x63 (t + 1) (ss ++ [sa])) (rwI v3 t ss)] ++ (onR (done 3) (rwI x52 1 [o]) ++ (onR (done 8) (rwI x57 1 [ea]) ++ onR (true) (rwI (.slice (some ⟨W.heap.size, 0, none⟩) 1 1) 1 [sa])))) [(q7, Obj.cells #[.int .i64 wd, cond (done 16) x53 v1, cond (done 18) x58 v2, cond (done 20) x63 v3] 44 (0, 0)), (q6, Obj.cells #[.int .i64 0, .slice none 0 0, .slice none 0 0, .slice none 0 0] 44 (0, 0))] (W.alloc (.cells #[.int .i64 sa] 3))
                exact H2
              · cases ho
                have h1 := hdep 13 (by kernel_rfl) (by simp)
                clear hdep
                have n20 : done 20 = false := by
                  cases h : done 20 with
                  | false => rfl
                  | true => exact absurd (e20 h) (by rw [hd]; decide)
                obtain ⟨gb, kb, rfl⟩ : ∃ g cap, x62 = .slice (some ⟨g, 0, none⟩) 1 cap := form_pos (r := rwI x62 1 [sa]) (H.q _ (by rw [onR_yes h1]; simp)) (show 0 < 1 by decide)
                have o3 := H.q (rwI (.slice (some ⟨gb, 0, none⟩) 1 kb) 1 [sa]) (by rw [onR_yes h1]; simp)
                rw [hd] at H
                have o0 : W.ownsRow w.heap.size 3 1 v3 t (ints ss) := H.q (rwI v3 t ss) (by simp)
                obtain ⟨v', W', hrun, hown, hgrow, -, hat⟩ := run_append_own_at (P := Try.prog) W w.heap.size 22 22 3 i0 (.int .i64 0) 1 8 Try.underlying22 HF.out.1 HF.out.2.1 HF.out.2.2.1 HF.out.2.2.2 rfl (by decide) v3 t (ints ss) o0 ⟨gb, 0, none⟩ 1 kb [.int .i64 sa] rfl (fun j u hj => World.ownsRow.cells o3 (g := gb) rfl j u hj) (by simp [Value.oneCell']) (by have := HT.out; unfold maxLen; omega) (by have := HT.out; omega) H.o
                refine Lim.append_upon rfl rfl rfl hrun (hK _ _ ?_)
                simp only [Act.put, List.setIfInBounds_toArray, List.set_cons_succ, List.set_cons_zero]
                have H2 := Mem.push (Q1 := [cond (done 4) (rwI x53 (t + 1) (os ++ [o])) (rwI v1 t os), cond (done 9) (rwI x58 (t + 1) (es ++ [ea])) (rwI v2 t es)]) (Q2 := ([] ++ (onR (done 3) (rwI x52 1 [o]) ++ (onR (done 8) (rwI x57 1 [ea]) ++ onR (done 13) (rwI (.slice (some ⟨gb, 0, none⟩) 1 kb) 1 [sa]))))) (v := v3) (n := t) (l := ss) (x := sa) (by simpa using H) hown hgrow hat
                refine ⟨x52, x53, x57, x58, _, _, x64, x65, x66, rfl, ?_, (fun h => by simpa using e15 (by simpa using h)), (fun h => by simpa using e17 (by simpa using h)), (fun h => by simpa using e19 (by simpa using h)), (fun h => by simpa using e16 (by simpa using h)), (fun h => by simpa using e18 (by simpa using h)), (fun h => absurd (show done 20 = true by simpa using h) (by rw [n20]; decide)), (fun h => by simpa using e4 (by simpa using h)), (fun h => by simpa using e9 (by simpa using h)), (fun _ => by simpa using h1)⟩
                show Mem W0 w.heap.size [] ([cond (done 4) (rwI x53 (t + 1) (os ++ [o])) (rwI v1 t os), cond (done 9) (rwI x58 (t + 1) (es ++ [ea])) (rwI v2 t es), cond (true) (rwI v' (t + 1) (ss ++ [sa])) (rwI v3 t ss)] ++ (onR (done 3) (rwI x52 1 [o]) ++ (onR (done 8) (rwI x57 1 [ea]) ++ onR (done 13) (rwI (.slice (some ⟨gb, 0, none⟩) 1 kb) 1 [sa])))) [(q7, Obj.cells #[.int .i64 wd, cond (done 16) x53 v1, cond (done 18) x58 v2, cond (done 20) v' v3] 44 (0, 0)), (q6, Obj.cells #[.int .i64 0, .slice none 0 0, .slice none 0 0, .slice none 0 0] 44 (0, 0))] W'
                simpa [n20] using H2
              · cases ho
                clear hdep
                go_simp
                refine hK _ _ ?_
                exact ⟨x52, x53, x57, x58, x62, x63, _, x65, x66, rfl, H, (fun _ => rfl), (fun h => by simpa using e17 (by simpa using h)), (fun h => by simpa using e19 (by simpa using h)), (fun h => by simpa using e16 (by simpa using h)), (fun h => by simpa using e18 (by simpa using h)), (fun h => by simpa using e20 (by simpa using h)), (fun h => by simpa using e4 (by simpa using h)), (fun h => by simpa using e9 (by simpa using h)), (fun h => by simpa using e14 (by simpa using h))⟩
              · cases ho
                have h1 := hdep 4 (by kernel_rfl) (by simp)
                obtain rfl := e15 (hdep 15 (by kernel_rfl) (by simp))
                clear hdep
                obtain ⟨gb, kb, rfl⟩ : ∃ g cap, x53 = .slice (some ⟨g, 0, none⟩) (t + 1) cap := form_pos (r := rwI x53 (t + 1) (os ++ [o])) (H.q _ (by rw [h1]; simp)) (show 0 < t + 1 by omega)
                obtain ⟨b0, b1, b2, b3⟩ := H.box4 (t := 44) (List.mem_cons_self)
                obtain ⟨f0, f1, f2, f3⟩ := H.frz4 (q := q7) (t := 44) (List.mem_cons_self)
                have H2 := Mem.putX (X1 := []) H 1 (.slice (some ⟨gb, 0, none⟩) (t + 1) kb)
                rw [hd] at H2 b1
                go_simp
                clear b0 b1 b2 b3 f0 f1 f2 f3
                refine hK _ _ ?_
                refine ⟨x52, (.slice (some ⟨gb, 0, none⟩) (t + 1) kb), x57, x58, x62, x63, _, x65, x66, rfl, ?_, (fun _ => rfl), (fun h => by simpa using e17 (by simpa using h)), (fun h => by simpa using e19 (by simpa using h)), (fun _ => by simpa using h1), (fun h => by simpa using e18 (by simpa using h)), (fun h => by simpa using e20 (by simpa using h)), (fun h => by simpa using e4 (by simpa using h)), (fun h => by simpa using e9 (by simpa using h)), (fun h => by simpa using e14 (by simpa using h))⟩
                show Mem W0 w.heap.size [] ([cond (done 4) (rwI (.slice (some ⟨gb, 0, none⟩) (t + 1) kb) (t + 1) (os ++ [o])) (rwI v1 t os), cond (done 9) (rwI x58 (t + 1) (es ++ [ea])) (rwI v2 t es), cond (done 14) (rwI x63 (t + 1) (ss ++ [sa])) (rwI v3 t ss)] ++ (onR (done 3) (rwI x52 1 [o]) ++ (onR (done 8) (rwI x57 1 [ea]) ++ onR (done 13) (rwI x62 1 [sa])))) [(q7, Obj.cells #[.int .i64 wd, cond (true) (.slice (some ⟨gb, 0, none⟩) (t + 1) kb) v1, cond (done 18) x58 v2, cond (done 20) x63 v3] 44 (0, 0)), (q6, Obj.cells #[.int .i64 0, .slice none 0 0, .slice none 0 0, .slice none 0 0] 44 (0, 0))] _
                simpa using H2
              · cases ho
                clear hdep
                go_simp
                refine hK _ _ ?_
                exact ⟨x52, x53, x57, x58, x62, x63, x64, _, x66, rfl, H, (fun h => by simpa using e15 (by simpa using h)), (fun _ => rfl), (fun h => by simpa using e19 (by simpa using h)), (fun h => by simpa using e16 (by simpa using h)), (fun h => by simpa using e18 (by simpa using h)), (fun h => by simpa using e20 (by simpa using h)), (fun h => by simpa using e4 (by simpa using h)), (fun h => by simpa using e9 (by simpa using h)), (fun h => by simpa using e14 (by simpa using h))⟩
              · cases ho
                have h1 := hdep 9 (by kernel_rfl) (by simp)
                obtain rfl := e17 (hdep 17 (by kernel_rfl) (by simp))
                clear hdep
                obtain ⟨gb, kb, rfl⟩ : ∃ g cap, x58 = .slice (some ⟨g, 0, none⟩) (t + 1) cap := form_pos (r := rwI x58 (t + 1) (es ++ [ea])) (H.q _ (by rw [h1]; simp)) (show 0 < t + 1 by omega)
                obtain ⟨b0, b1, b2, b3⟩ := H.box4 (t := 44) (List.mem_cons_self)
                obtain ⟨f0, f1, f2, f3⟩ := H.frz4 (q := q7) (t := 44) (List.mem_cons_self)
                have H2 := Mem.putX (X1 := []) H 2 (.slice (some ⟨gb, 0, none⟩) (t + 1) kb)
                rw [hd] at H2 b2
                go_simp
                clear b0 b1 b2 b3 f0 f1 f2 f3
                refine hK _ _ ?_
                refine ⟨x52, x53, x57, (.slice (some ⟨gb, 0, none⟩) (t + 1) kb), x62, x63, x64, _, x66, rfl, ?_, (fun h => by simpa using e15 (by simpa using h)), (fun _ => rfl), (fun h => by simpa using e19 (by simpa using h)), (fun h => by simpa using e16 (by simpa using h)), (fun _ => by simpa using h1), (fun h => by simpa using e20 (by simpa using h)), (fun h => by simpa using e4 (by simpa using h)), (fun h => by simpa using e9 (by simpa using h)), (fun h => by simpa using e14 (by simpa using h))⟩
                show Mem W0 w.heap.size [] ([cond (done 4) (rwI x53 (t + 1) (os ++ [o])) (rwI v1 t os), cond (done 9) (rwI (.slice (some ⟨gb, 0, none⟩) (t + 1) kb) (t + 1) (es ++ [ea])) (rwI v2 t es), cond (done 14) (rwI x63 (t + 1) (ss ++ [sa])) (rwI v3 t ss)] ++ (onR (done 3) (rwI x52 1 [o]) ++ (onR (done 8) (rwI x57 1 [ea]) ++ onR (done 13) (rwI x62 1 [sa])))) [(q7, Obj.cells #[.int .i64 wd, cond (done 16) x53 v1, cond (true) (.slice (some ⟨gb, 0, none⟩) (t + 1) kb) v2, cond (done 20) x63 v3] 44 (0, 0)), (q6, Obj.cells #[.int .i64 0, .slice none 0 0, .slice none 0 0, .slice none 0 0] 44 (0, 0))] _
                simpa using H2
              · cases ho
                clear hdep
                go_simp
                refine hK _ _ ?_
                exact ⟨x52, x53, x57, x58, x62, x63, x64, x65, _, rfl, H, (fun h => by simpa using e15 (by simpa using h)), (fun h => by simpa using e17 (by simpa using h)), (fun _ => rfl), (fun h => by simpa using e16 (by simpa using h)), (fun h => by simpa using e18 (by simpa using h)), (fun h => by simpa using e20 (by simpa using h)), (fun h => by simpa using e4 (by simpa using h)), (fun h => by simpa using e9 (by simpa using h)), (fun h => by simpa using e14 (by simpa using h))⟩
              · cases ho
                have h1 := hdep 14 (by kernel_rfl) (by simp)
                obtain rfl := e19 (hdep 19 (by kernel_rfl) (by simp))
                clear hdep
                obtain ⟨gb, kb, rfl⟩ : ∃ g cap, x63 = .slice (some ⟨g, 0, none⟩) (t + 1) cap := form_pos (r := rwI x63 (t + 1) (ss ++ [sa])) (H.q _ (by rw [h1]; simp)) (show 0 < t + 1 by omega)
                obtain ⟨b0, b1, b2, b3⟩ := H.box4 (t := 44) (List.mem_cons_self)
                obtain ⟨f0, f1, f2, f3⟩ := H.frz4 (q := q7) (t := 44) (List.mem_cons_self)
                have H2 := Mem.putX (X1 := []) H 3 (.slice (some ⟨gb, 0, none⟩) (t + 1) kb)
                rw [hd] at H2 b3
                go_simp
                clear b0 b1 b2 b3 f0 f1 f2 f3
                refine hK _ _ ?_
                refine ⟨x52, x53, x57, x58, x62, (.slice (some ⟨gb, 0, none⟩) (t + 1) kb), x64, x65, _, rfl, ?_, (fun h => by simpa using e15 (by simpa using h)), (fun h => by simpa using e17 (by simpa using h)), (fun _ => rfl), (fun h => by simpa using e16 (by simpa using h)), (fun h => by simpa using e18 (by simpa using h)), (fun _ => by simpa using h1), (fun h => by simpa using e4 (by simpa using h)), (fun h => by simpa using e9 (by simpa using h)), (fun h => by simpa using e14 (by simpa using h))⟩
                show Mem W0 w.heap.size [] ([cond (done 4) (rwI x53 (t + 1) (os ++ [o])) (rwI v1 t os), cond (done 9) (rwI x58 (t + 1) (es ++ [ea])) (rwI v2 t es), cond (done 14) (rwI (.slice (some ⟨gb, 0, none⟩) (t + 1) kb) (t + 1) (ss ++ [sa])) (rwI v3 t ss)] ++ (onR (done 3) (rwI x52 1 [o]) ++ (onR (done 8) (rwI x57 1 [ea]) ++ onR (done 13) (rwI x62 1 [sa])))) [(q7, Obj.cells #[.int .i64 wd, cond (done 16) x53 v1, cond (done 18) x58 v2, cond (true) (.slice (some ⟨gb, 0, none⟩) (t + 1) kb) v3] 44 (0, 0)), (q6, Obj.cells #[.int .i64 0, .slice none 0 0, .slice none 0 0, .slice none 0 0] 44 (0, 0))] _
                simpa using H2
            case fin =>
              rintro done a W hall ⟨x52, x53, x57, x58, x62, x63, x64, x65, x66, rfl, H, e15, e17, e19, e16, e18, e20, e4, e9, e14⟩
              rw [hall 4 (by simp), hall 9 (by simp), hall 14 (by simp), hall 16 (by simp), hall 18 (by simp), hall 20 (by simp)] at H
              have HN14 := Lib.hid (HM8.out.next H)
              clear H hall HM8 HW0
              go_wp2_with fail
              go_roundw
              case rel => exact ⟨t + 1, by omega, by go_num, _, _, _, _, _, _, _, Lib.hid ⟨HP.out.1.more HO.out.1 HEA.out HSA.out, by have := HP.out.2; have := HO.out.2; omega⟩, HN14⟩
              case measure => simp [intOf]; omega
    · obtain rfl : t = n := by omega
      have HT2 : Hid (2 ≤ t ∧ t ≤ 100) := Lib.hid ⟨by have := HN.out; have := HWD.out; have := HHI.out; have h := Nat.mul_le_mul (n₁ := 1) (n₂ := wd) (m₁ := 2) (m₂ := hi) (by omega) (by omega); omega, by omega⟩
      obtain ⟨g1, k1, rfl⟩ : ∃ g cap, v1 = .slice (some ⟨g, 0, none⟩) t cap := form_pos (r := rwI v1 t os) (HM.out.me.q _ (by simp)) (show 0 < t by have := HT2.out; omega)
      obtain ⟨g2, k2, rfl⟩ : ∃ g cap, v2 = .slice (some ⟨g, 0, none⟩) t cap := form_pos (r := rwI v2 t es) (HM.out.me.q _ (by simp)) (show 0 < t by have := HT2.out; omega)
      obtain ⟨g3, k3, rfl⟩ : ∃ g cap, v3 = .slice (some ⟨g, 0, none⟩) t cap := form_pos (r := rwI v3 t ss) (HM.out.me.q _ (by simp)) (show 0 < t by have := HT2.out; omega)
      obtain ⟨N1, hN1⟩ : ∃ N1 : Nat, N1 + 1 = t := ⟨t - 1, by have := HT2.out; omega⟩
      have e1 : IntKind.i64.wrap ((t : Int) - 1) = (N1 : Int) := by rw [IntWalk.i64_in _ (by omega)]; omega
      have hp0 : (0 : Int) < (t : Int) := by omega
      have hp1 : (N1 : Int) < (t : Int) := by omega
      have hp00 : 0 < t := by omega
      have hp10 : N1 < t := by omega
      have HN1 := Lib.hid hN1
      have HM1 := Lib.hid (HM.out.below (Below.refl _ wr).drew)
      have hC : (fun W => W.cell? ⟨q7, 1, none⟩ = some (.slice (some ⟨g1, 0, none⟩) t k1)) wr.drew := (HM1.out.me.box4 (t := 44) (List.mem_cons_self)).2.1
      clear HM hN1 hlt ht
      go_upto_region 16 with (fail)
      refine Lim.regC' (fun W => W.cell? ⟨q7, 1, none⟩ = some (.slice (some ⟨g1, 0, none⟩) t k1)) [] #[false, false, false, false, false, false, false, false, false, false] (by kernel_rfl) rfl ?_
      generalize wr.drew = W1 at HM1 hC ⊢
      refine Lim.stepR 0 (fun _ => trivial) rfl (by kernel_rfl) (fun _ _ _ _ h => h) hC rfl ?_; apply Exists.intro; refine ⟨?_, ?_⟩
      · rintro w r1; go_simp; try with_reducible rfl
      simp only [Act.put, List.setIfInBounds_toArray, List.set_cons_succ, List.set_cons_zero]
      refine Lim.stepR 1 (fun _ => trivial) rfl (by kernel_rfl) (fun _ _ _ _ h => h) hC rfl ?_; apply Exists.intro; refine ⟨?_, ?_⟩
      · rintro w r1; go_simp; try with_reducible rfl
      simp only [Act.put, List.setIfInBounds_toArray, List.set_cons_succ, List.set_cons_zero]
      refine Lim.stepR 2 (fun _ => trivial) rfl (by kernel_rfl) (fun _ _ _ _ h => h) hC rfl ?_; apply Exists.intro; refine ⟨?_, ?_⟩
      · rintro w r1; go_simp; try with_reducible rfl
      simp only [Act.put, List.setIfInBounds_toArray, List.set_cons_succ, List.set_cons_zero]
      refine Lim.stepR 3 (fun _ => trivial) rfl (by kernel_rfl) (fun _ _ _ _ h => h) hC rfl ?_; apply Exists.intro; refine ⟨?_, ?_⟩
      · rintro w r1; go_simp; try with_reducible rfl
      simp only [Act.put, List.setIfInBounds_toArray, List.set_cons_succ, List.set_cons_zero]
      refine Lim.stepR 4 (fun _ => trivial) rfl (by kernel_rfl) (fun _ _ _ _ h => h) hC rfl ?_; apply Exists.intro; refine ⟨?_, ?_⟩
      · rintro w r1; go_simp; try with_reducible rfl
      simp only [Act.put, List.setIfInBounds_toArray, List.set_cons_succ, List.set_cons_zero]
      refine Lim.stepR 5 (fun _ => trivial) rfl (by kernel_rfl) (fun _ _ _ _ h => h) hC rfl ?_; apply Exists.intro; refine ⟨?_, ?_⟩
      · rintro w r1; go_simp; try with_reducible rfl
      simp only [Act.put, List.setIfInBounds_toArray, List.set_cons_succ, List.set_cons_zero]
      refine Lim.stepR 6 (fun _ => trivial) rfl (by kernel_rfl) (fun _ _ _ _ h => h) hC rfl ?_; apply Exists.intro; refine ⟨?_, ?_⟩
      · rintro w r1; go_simp; try with_reducible rfl
      simp only [Act.put, List.setIfInBounds_toArray, List.set_cons_succ, List.set_cons_zero]
      refine Lim.stepE 7 (fun _ => trivial) rfl (by kernel_rfl) rfl (fun K hK => ?_)   -- E store
      have q0 : W1.cell? ⟨g1, 0, none⟩ = some (.int .i64 (os.getD 0 0)) := HM1.out.me.cellI (n := t) (cap := k1) (.inr (by simp)) (by rw [HP.out.1.lo]; exact hp00)
      have f0 : W1.frozen? ⟨g1, 0, none⟩ = false := row_frz (r := rwI (.slice (some ⟨g1, 0, none⟩) t k1) t os) (HM1.out.me.q _ (by simp)) rfl 0
      have HA := Lib.hid (Mem.setI (Q1 := []) HM1.out.me 0 0)
      have hC1 : (fun W => W.cell? ⟨q7, 1, none⟩ = some (.slice (some ⟨g1, 0, none⟩) t k1)) (W1.setCell ⟨g1, 0, none⟩ (.int .i64 0)) := (HA.out.box4 (t := 44) (List.mem_cons_self)).2.1
      go_simp
      refine hK _ _ hC1 ?_
      clear q0 f0 hC
      generalize W1.setCell ⟨g1, 0, none⟩ (.int .i64 0) = W2 at HA hC1 ⊢
      simp only [Act.put, List.setIfInBounds_toArray, List.set_cons_succ, List.set_cons_zero]
      refine Lim.stepR 8 (fun _ => trivial) rfl (by kernel_rfl) (fun _ _ _ _ h => h) hC1 rfl ?_; apply Exists.intro; refine ⟨?_, ?_⟩
      · rintro w r1; go_simp; try with_reducible rfl
      simp only [Act.put, List.setIfInBounds_toArray, List.set_cons_succ, List.set_cons_zero]
      refine Lim.stepE 9 (fun _ => trivial) rfl (by kernel_rfl) rfl (fun K hK => ?_)   -- E store
      have q0 : W2.cell? ⟨g1, N1, none⟩ = some (.int .i64 ((os.set 0 0).getD N1 0)) := HA.out.cellI (n := t) (cap := k1) (.inr (by simp)) (by rw [List.length_set, HP.out.1.lo]; exact hp10)
      have f0 : W2.frozen? ⟨g1, N1, none⟩ = false := row_frz (r := rwI (.slice (some ⟨g1, 0, none⟩) t k1) t (os.set 0 0)) (HA.out.q _ (by simp)) rfl N1
      have HB := Lib.hid (Mem.setI (Q1 := []) HA.out N1 1)
      have hC2 : (fun W => W.cell? ⟨q7, 1, none⟩ = some (.slice (some ⟨g1, 0, none⟩) t k1)) (W2.setCell ⟨g1, N1, none⟩ (.int .i64 1)) := (HB.out.box4 (t := 44) (List.mem_cons_self)).2.1
      go_simp
      refine hK _ _ hC2 ?_
      clear q0 f0 hC1
      generalize W2.setCell ⟨g1, N1, none⟩ (.int .i64 1) = W3 at HB hC2 ⊢
      simp only [Act.put, List.setIfInBounds_toArray, List.set_cons_succ, List.set_cons_zero]
      refine Lim.stepD (by kernel_rfl) ?_
      clear hC2 HA
      have HL := Lib.hid (And.intro HM1.out.sp HM1.out.lt)
      clear HM1
      obtain ⟨b0, b1, b2, b3⟩ := HB.out.box4 (q := q7) (t := 44) (List.mem_cons_self)
      obtain ⟨z0, z1, z2, z3⟩ := HB.out.box4 (q := q6) (a := .int .i64 0) (b := .slice none 0 0) (e := .slice none 0 0) (f := .slice none 0 0) (t := 44) (by simp)
      obtain ⟨f0, f1, f2, f3⟩ := HB.out.frz4 (q := q6) (a := .int .i64 0) (b := .slice none 0 0) (e := .slice none 0 0) (f := .slice none 0 0) (t := 44) (by simp)
      go_wp2_with fail
      have HF := Lib.hid (Mem.put4 (X1 := [(q7, Obj.cells #[.int .i64 wd, .slice (some ⟨g1, 0, none⟩) t k1, .slice (some ⟨g2, 0, none⟩) t k2, .slice (some ⟨g3, 0, none⟩) t k3] 44 (0, 0))]) (X2 := []) HB.out (.int .i64 wd) (.slice (some ⟨g1, 0, none⟩) t k1) (.slice (some ⟨g2, 0, none⟩) t k2) (.slice (some ⟨g3, 0, none⟩) t k3))
      obtain ⟨r0, r1, r2, r3⟩ := HF.out.box4 (q := q6) (a := .int .i64 wd) (b := .slice (some ⟨g1, 0, none⟩) t k1) (e := .slice (some ⟨g2, 0, none⟩) t k2) (f := .slice (some ⟨g3, 0, none⟩) t k3) (t := 44) (by simp)
      refine bodyPost_ret (results_mid (fn := Try.f21) (p := 6) (ty := 44) rfl _ _ q6 0 [_, _, _, _] _ rfl (four_range r0 r1 r2 r3) Try.underlying44 rfl (show (Try.prog.info? 44).map (·.size) = some 4 by kernel_rfl)) rfl ?_
      have hn := HN.out
      have hP := HP.out.1
      rw [hn] at hP
      have hle : wd * hi ≤ 100 := by have := HT2.out; omega
      obtain ⟨l1, l2, l3⟩ := hP.land HWD.out.1 HHI.out.1 hle
      have hN : N1 = wd * hi - 1 := by have := HN1.out; omega
      have o1 := HF.out.q _ (List.mem_cons_self)
      have o2 := HF.out.q (rwI (.slice (some ⟨g2, 0, none⟩) t k2) t es) (by simp)
      have o3 := HF.out.q (rwI (.slice (some ⟨g3, 0, none⟩) t k3) t ss) (by simp)
      have hsp := HL.out.1.from (T' := fun k => w.heap.size ≤ k) ⟨HF.out.b.os, HF.out.b.tape, HF.out.b.output, HF.out.b.size, fun k _ h2 => HF.out.b.block k (by omega)⟩ (fun k h1 h2 => by omega)
      rw [← hN] at l1 l2 l3
      exact ⟨wd, hi, _, _, _, (os.set 0 0).set N1 1, es, ss, rfl, HWD.out.2, HHI.out.1, HHI.out.2, l1, ⟨fun k hk => ⟨(hP.e k hk).2, (hP.s k hk).2⟩, l2, by rw [← hN]; exact l3⟩, by rw [← hn]; exact o1, by rw [← hn]; exact o2, by rw [← hn]; exact o3, hsp⟩
end Go.Proofs.Ytkjcnkkmhkcddaa
/-
  What a division costs.
-/
namespace Go.Proofs.Ytkjcnkkmhkcddaa
open Go.RowKit Go.Shelf
open Lim

attribute [local go_sem] Oper.semAt_some

/-- a division of a land: numbers 0 and 1, and what the states have they keep -/
structure DivL (wd hi : Nat) (os ws : List Int) : Prop where
  len : ws.length = wd * hi
  v : ∀ k, k < wd * hi → ws.getD k 0 = 0 ∨ ws.getD k 0 = 1
  k : ∀ k, k < wd * hi → os.getD k 0 = -1 ∨ os.getD k 0 = ws.getD k 0
theorem DivL.keeps {wd hi : Nat} {os ws : List Int} (h : DivL wd hi os ws) : Keeps (wd * hi) (fun k => os.getD k 0) (fun k => decide (ws.getD k 0 = 1)) := fun a ha => by
  rcases h.k a ha with e | e
  · exact .inl e
  · rcases h.v a ha with e2 | e2
    · exact .inr (.inl ⟨e.trans e2, by show decide (ws.getD a 0 = 1) = false; rw [e2]; rfl⟩)
    · exact .inr (.inr ⟨e.trans e2, by show decide (ws.getD a 0 = 1) = true; rw [e2]; rfl⟩)
set_option maxRecDepth 20000 in
set_option maxHeartbeats 4000000 in
theorem cost_any {wd hi : Nat} {ov ev sv wv : Value} {os es ss ws : List Int} {w : World} (L : LandG wd hi os es ss) (hD : DivL wd hi os ws) (hv : RS w.heap.size w ov os.length (ints os)) (he : RS w.heap.size w ev es.length (ints es)) (hs : RS w.heap.size w sv ss.length (ints ss)) (hw : RS w.heap.size w wv ws.length (ints ws)) :
    Calls Try.prog 41 #[.agg #[.int .i64 wd, ov, ev, sv], wv] w fun e w' => e = .returned (.tuple #[.int .i64 (cutES (wd * hi) wd (fun k => es.getD k 0) (fun k => ss.getD k 0) (fun k => decide (ws.getD k 0 = 1))), .int .i64 0]) ∧ Below w.heap.size w w' := by
  have hb0 : Below w.heap.size w (w.alloc (.cells #[.int .i64 wd, ov, ev, sv] 44)) := (Below.refl _ w).alloc (Nat.le_refl _) _
  have hlen : os.length ≤ 100000 ∧ es.length ≤ 100000 ∧ ss.length ≤ 100000 := by rw [L.lo, L.le, L.ls]; have := L.n1; omega
  have HC := Lib.hid (CheckLand_any (wd := wd) (w := w.alloc (.cells #[.int .i64 wd, ov, ev, sv] 44)) hlen hb0.size (hv.below hb0) (he.below hb0) (hs.below hb0))
  rw [L.err] at HC
  have HL := Lib.hid L
  have HD := Lib.hid hD
  have HV := Lib.hid (And.intro hv (And.intro he (And.intro hs hw)))
  obtain ⟨n, hn⟩ : ∃ n, n = wd * hi := ⟨_, rfl⟩
  have hlo := L.lo
  have hle := L.le
  have hls := L.ls
  have hlw := hD.len
  rw [← hn] at hlo hle hls hlw
  obtain ⟨oa, oc, rfl, hco⟩ := hv
  obtain ⟨ea, ec, rfl, -⟩ := he
  obtain ⟨sa, sc, rfl, -⟩ := hs
  obtain ⟨wa, wc, rfl, hcw⟩ := hw
  have hn0 : 0 < n := by rw [hn]; exact Nat.mul_pos L.w1 L.h1
  have hn100 : n ≤ 100 := by rw [hn]; exact L.n1
  obtain ⟨go, fo, rfl, -, -⟩ := hco (ints_ne (by omega))
  obtain ⟨gw, fw, rfl, -, -⟩ := hcw (ints_ne (by omega))
  rw [hlo, hle, hls, hlw] at HV
  rw [hlo, hle, hls] at HC
  rw [hlo, hle, hls, hlw]
  have f0 : (w.alloc (.cells #[.int .i64 wd, .slice (some ⟨go, fo, none⟩) n oc, .slice ea n ec, .slice sa n sc] 44)).cell? ⟨w.heap.size, 0, none⟩ = some (.int .i64 wd) := by simp [go_sem]
  have f1 : (w.alloc (.cells #[.int .i64 wd, .slice (some ⟨go, fo, none⟩) n oc, .slice ea n ec, .slice sa n sc] 44)).cell? ⟨w.heap.size, 1, none⟩ = some (.slice (some ⟨go, fo, none⟩) n oc) := by simp [go_sem]
  have f2 : (w.alloc (.cells #[.int .i64 wd, .slice (some ⟨go, fo, none⟩) n oc, .slice ea n ec, .slice sa n sc] 44)).cell? ⟨w.heap.size, 2, none⟩ = some (.slice ea n ec) := by simp [go_sem]
  have f3 : (w.alloc (.cells #[.int .i64 wd, .slice (some ⟨go, fo, none⟩) n oc, .slice ea n ec, .slice sa n sc] 44)).cell? ⟨w.heap.size, 3, none⟩ = some (.slice sa n sc) := by simp [go_sem]
  rw [hlo, hle, hls] at hb0
  have HB0 := Lib.hid hb0
  have HN := Lib.hid hn
  have HLN := Lib.hid (And.intro hlo (And.intro hle (And.intro hls hlw)))
  clear hb0 hlen L hD hlo hle hls hlw hn hco hcw
  go_enter Try.func41, Try.ntmps41
  go_wp2_with fail
  generalize w.alloc (.cells #[.int .i64 wd, .slice (some ⟨go, fo, none⟩) n oc, .slice ea n ec, .slice sa n sc] 44) = w1 at HB0 HC f0 f1 f2 f3 ⊢
  refine HC.out.mono ?_
  rintro e w2 ⟨rfl, hb⟩
  replace f0 := hb.on f0
  replace f1 := hb.on f1
  replace f2 := hb.on f2
  replace f3 := hb.on f3
  have HB2 := Lib.hid (HB0.out.trans (hb.mono HB0.out.size))
  clear hb HC
  have HCE : Hid (∀ W, Below w.heap.size w W → ∀ k, k < n → W.cell? ⟨go, fo + k, none⟩ = some (.int .i64 (os.getD k 0)) ∧ W.cell? ⟨gw, fw + k, none⟩ = some (.int .i64 (ws.getD k 0))) := Lib.hid fun W hW k hk => by
    obtain ⟨g1, o1, e1, h1⟩ := cell_of_RS (HV.out.1.below hW) (show k < os.length by rw [HLN.out.1]; exact hk)
    obtain ⟨g2, o2, e2, h2⟩ := cell_of_RS (HV.out.2.2.2.below hW) (show k < ws.length by rw [HLN.out.2.2.2]; exact hk)
    cases e1
    cases e2
    exact ⟨h1, h2⟩
  go_wp2_with fail
  go_loopw [24] (fun iv W => ∃ t : Nat, t ≤ n ∧ iv = .int .i64 t ∧ Hid (Below w2.heap.size w2 W)) (fun iv _ => n - (intOf iv).toNat)
  case atStart => exact ⟨0, Nat.zero_le _, rfl, Lib.hid (Below.refl _ _)⟩
  case round =>
    obtain ⟨t, ht, rfl, hI⟩ := hrel
    have a0 := hI.out.on f0
    have a1 := hI.out.on f1
    have a2 := hI.out.on f2
    have a3 := hI.out.on f3
    clear f0 f1 f2 f3
    have hbw : Below w.heap.size w wr := HB2.out.trans (hI.out.mono HB2.out.size)
    by_cases hlt : t < n
    · have ht64 : (t : Int) < (n : Int) := by omega
      obtain ⟨c1, c2⟩ := HCE.out _ hbw t hlt
      have hv := HD.out.v t (by rw [← HN.out]; exact hlt)
      have hk := HD.out.k t (by rw [← HN.out]; exact hlt)
      obtain ⟨x, hx⟩ : ∃ x, x = ws.getD t 0 := ⟨_, rfl⟩
      obtain ⟨y, hy⟩ : ∃ y, y = os.getD t 0 := ⟨_, rfl⟩
      rw [← hx] at c2 hv hk
      rw [← hy] at c1 hk
      have hin : inB x 0 1 = true := inB_true (by omega) (by omega)
      have HIN : Hid (∀ W, Calls Try.prog 48 #[.int .i64 x, .int .i64 0, .int .i64 1] W fun e w' => e = .returned (.bool true) ∧ W = w') := Lib.hid fun W => by
        have h := in_any x 0 1 W
        rw [hin] at h
        exact h
      clear hx hy hin hbw
      by_cases e1 : y = -1
      · have g1 : (y != -1) = false := by simp [e1]
        clear e1 hk hv
        go_wp2_with fail
        refine (HIN.out _).mono ?_
        rintro e w3 ⟨rfl, rfl⟩
        go_wp2_with fail
        go_roundw
        case rel => exact ⟨t + 1, by omega, by go_num, hI⟩
        case measure => simp [intOf]; omega
      · have hxy : y = x := hk.resolve_left e1
        subst hxy
        have g1 : (y != -1) = true := by simp [e1]
        have g2 : (y != y) = false := by simp
        clear e1 hk hv
        go_wp2_with fail
        refine (HIN.out _).mono ?_
        rintro e w3 ⟨rfl, rfl⟩
        go_wp2_with fail
        go_roundw
        case rel => exact ⟨t + 1, by omega, by go_num, hI⟩
        case measure => simp [intOf]; omega
    · obtain rfl : n = t := by omega
      have HCU := Lib.hid (cuts_any (B := w.heap.size) (n := n) (wd := wd) (ov := .slice (some ⟨go, fo, none⟩) n oc) (ev := .slice ea n ec) (sv := .slice sa n sc) (wv := .slice (some ⟨gw, fw, none⟩) n wc) (es := es) (ss := ss) (ws := ws) (E := fun k => es.getD k 0) (S := fun k => ss.getD k 0) (o := fun k => ws.getD k 0) (w := wr) hbw.size
        (by rw [HLN.out.2.1]; exact HV.out.2.1.below hbw) (by rw [HLN.out.2.2.1]; exact HV.out.2.2.1.below hbw) (by rw [HLN.out.2.2.2]; exact HV.out.2.2.2.below hbw)
        HLN.out.2.1 HLN.out.2.2.1 HLN.out.2.2.2 hn100 HL.out.w1 (by rw [HN.out]; exact Nat.mul_mod_right _ _) (by rw [HN.out]; exact Nat.le_mul_of_pos_right _ HL.out.h1) (fun _ => rfl) (fun _ => rfl) (fun _ => rfl) (fun k hk => HL.out.e k (by rw [← HN.out]; exact hk)) (fun k hk => HL.out.s k (by rw [← HN.out]; exact hk)))
      have HW := Lib.hid hbw
      have HCV : Hid ((cutL n wd (fun k => ws.getD k 0) (fun k => es.getD k 0) (fun k => ss.getD k 0) n).sum = cutES (wd * hi) wd (fun k => es.getD k 0) (fun k => ss.getD k 0) (fun k => decide (ws.getD k 0 = 1))) := Lib.hid (by
        have hcut := cutL_cut (n := n) (wd := wd) (o := fun k => ws.getD k 0) (E := fun k => es.getD k 0) (S := fun k => ss.getD k 0) (D := fun k => decide (ws.getD k 0 = 1)) HL.out.w1 (by rw [HN.out]; exact Nat.mul_mod_right _ _) (fun a b ha hb => by
          have h1 := HD.out.v a (by rw [← HN.out]; exact ha)
          have h2 := HD.out.v b (by rw [← HN.out]; exact hb)
          show ws.getD a 0 = ws.getD b 0 ↔ decide (ws.getD a 0 = 1) = decide (ws.getD b 0 = 1)
          rcases h1 with h1 | h1 <;> rcases h2 with h2 | h2 <;> rw [h1, h2] <;> decide)
        rw [hcut, cutES_eq HL.out.w1 (by rw [HN.out]; exact Nat.mul_mod_right _ _), HN.out])
      clear hbw
      go_wp2_with fail
      refine HCU.out.mono ?_
      rintro e w9 ⟨rfl, hb9⟩
      rw [HCV.out]
      have H9 := Lib.hid hb9
      clear hb9
      go_wp2_with fail
      go_ret2
      exact ⟨rfl, HW.out.trans (H9.out.mono HW.out.size)⟩
end Go.Proofs.Ytkjcnkkmhkcddaa
/-
  Walks that are taken out of a flow, in plain words.
-/
namespace Go.Proofs.Ytkjcnkkmhkcddaa

section
variable {m : Mp} {h F : Nat → Nat → Option Int} {V : Int} {Ws : Wks}
/-- walks have been taken; F is left of what goes -/
structure WkS (m : Mp) (h : Nat → Nat → Option Int) (V : Int) (F : Nat → Nat → Option Int) (Ws : Wks) : Prop where
  so : ∀ a b, (F a b).isSome = (h a b).isSome
  rg : ∀ a b, 0 ≤ (F a b).getD 0 ∧ (F a b).getD 0 ≤ 1000
  lf : Left m.n m.own (fun a b => (F a b).getD 0) (V - wtot Ws)
  ok : ∀ w ∈ Ws, goodW m w.1 = true ∧ (1 ≤ w.2 ∧ w.2 ≤ 1000) ∧ (∀ p ∈ w.1, p < m.n) ∧ w.1.length ≤ 100 ∧ WOk m.n m.own w
  us : ∀ a b, wuse Ws a b + (F a b).getD 0 + (F b a).getD 0 ≤ (h a b).getD 0
  many : (Ws.length : Int) ≤ wtot Ws
theorem Left.congr {n : Nat} {own : Nat → Int} {q q' : Nat → Nat → Int} {v : Int} (H : Left n own q v) (nn : ∀ a b, 0 ≤ q' a b) (e : ∀ a b, a < n → b < n → q a b = q' a b) : Left n own q' v := by
  refine ⟨nn, fun a ha ho => ?_, ?_⟩
  · rw [← H.cons a ha ho]
    exact sm_congr n fun b hb => by rw [e a b ha hb, e b a hb ha]
  · rw [← H.val]
    refine sm_congr n fun a ha => ?_
    split
    · exact sm_congr n fun b hb => by show q' a b - q' b a = q a b - q b a; rw [e a b ha hb, e b a hb ha]
    · rfl
theorem WkS.start {R : Nat → Nat → Option Int} {g : Nat → Nat → Int} (H : Full m.n m.own h R g) (hs : ∀ a b, h a b = h b a) (h0 : ∀ a b, 0 ≤ (h a b).getD 0 ∧ (h a b).getD 0 ≤ 1000) (hlt : ∀ a b, (h a b).isSome = true → a < m.n ∧ b < m.n) :
    WkS m h (value m.n m.own g) (fun a b => if (h a b).isSome = true then some (max 0 ((h a b).getD 0 - (R a b).getD 0)) else none) [] := by
  have hg : ∀ a b, a < m.n → b < m.n → g a b ≤ (h a b).getD 0 ∧ g b a ≤ (h a b).getD 0 ∧ g a b = - g b a ∧ (R a b).getD 0 = (h a b).getD 0 - g a b := fun a b ha hb => by
    have h1 : g a b ≤ (h a b).getD 0 := H.fl.cap a b ha hb
    have h2 : g b a ≤ (h b a).getD 0 := H.fl.cap b a hb ha
    rw [← hs a b] at h2
    exact ⟨h1, h2, H.fl.anti a b, H.rm a b ha hb⟩
  have val : ∀ a b, a < m.n → b < m.n → (if (h a b).isSome = true then some (max 0 ((h a b).getD 0 - (R a b).getD 0)) else none).getD 0 = max 0 (g a b) := fun a b ha hb => by
    obtain ⟨h1, h2, h3, h4⟩ := hg a b ha hb
    by_cases e : (h a b).isSome = true
    · rw [if_pos e, Option.getD_some, h4]; congr 1; omega
    · rw [if_neg e]
      have e2 : h a b = none := by cases hh : h a b with
        | none => rfl
        | some v => rw [hh] at e; exact absurd rfl e
      rw [e2] at h1 h2
      have h1 : g a b ≤ 0 := h1
      have h2 : g b a ≤ 0 := h2
      show (0 : Int) = max 0 (g a b)
      omega
  have zero : ∀ a b, ¬ (h a b).isSome = true → (if (h a b).isSome = true then some (max 0 ((h a b).getD 0 - (R a b).getD 0)) else none).getD 0 = 0 := fun a b e => by rw [if_neg e]; rfl
  have nn : ∀ a b, 0 ≤ (if (h a b).isSome = true then some (max 0 ((h a b).getD 0 - (R a b).getD 0)) else none).getD 0 := fun a b => by
    by_cases e : (h a b).isSome = true
    · obtain ⟨ha, hb⟩ := hlt a b e
      rw [val a b ha hb]; omega
    · rw [zero a b e]; omega
  refine ⟨fun a b => by by_cases e : (h a b).isSome = true <;> simp [e], fun a b => ⟨nn a b, ?_⟩, ?_, fun w hw => absurd hw List.not_mem_nil, fun a b => ?_, by simp [wtot]⟩
  · by_cases e : (h a b).isSome = true
    · obtain ⟨ha, hb⟩ := hlt a b e
      rw [val a b ha hb]
      have h1 := (hg a b ha hb).1
      have h2 := h0 a b
      omega
    · rw [zero a b e]; omega
  · have hl := H.fl.left.congr nn (fun a b ha hb => (val a b ha hb).symm)
    simpa [wtot] using hl
  · show 0 + _ + _ ≤ _
    by_cases e : (h a b).isSome = true
    · obtain ⟨ha, hb⟩ := hlt a b e
      obtain ⟨h1, h2, h3, -⟩ := hg a b ha hb
      rw [val a b ha hb, val b a hb ha]
      have := h0 a b
      omega
    · rw [zero a b e, zero b a (by rw [← hs a b]; exact e)]
      have := h0 a b
      omega
/-- what is left behind a walk -/
def lessF (F : Nat → Nat → Option Int) (c : Int) (L : List Nat) (x y : Nat) : Option Int := (F x y).map fun v => v - c * dirc L x y
theorem WkS.less (H : WkS m h V F Ws) {M : Nat → Bool} {rk : Nat → Nat} {t last a : Nat} {L : List Nat} {c : Int} (W : WayM m F M rk t last a L c) (hM : ∀ k, M k = true → k < m.n) (hn : m.n ≤ 100) (ha : m.own a = 0) (hz : m.own last = 1) (hgood : goodW m L = true) :
    WkS m h V (lessF F c L) (Ws ++ [(L, c)]) := by
  obtain ⟨s, hs⟩ := W.bk.head
  have hL : ∀ p ∈ L, p < m.n := fun p hp => hM p (W.bk.met p hp)
  have hnd : L.Nodup := W.bk.nodup
  have hlen : L.length ≤ 100 := by
    have h1 := nodup_length (l := L) (l' := List.range m.n) hnd (fun x hx => List.mem_range.2 (hL x hx))
    rw [List.length_range] at h1; omega
  have hq : ∀ x y, (lessF F c L x y).getD 0 = (F x y).getD 0 - c * dirc L x y := fun x y => by
    unfold lessF
    cases hf : F x y with
    | some v => simp
    | none =>
      by_cases d : dirc L x y = 0
      · simp [d]
      · obtain ⟨l, r, e⟩ := dirc_pos d
        have h1 := W.le l x y r e
        rw [hf] at h1
        have h2 := W.c0
        have h3 : c ≤ 0 := h1
        omega
  have hroom : ∀ x y, 0 ≤ (F x y).getD 0 - c * dirc L x y := fun x y => dirc_room hnd (fun x y => (H.rg x y).1) W.le x y
  have hcd : ∀ x y, 0 ≤ c * dirc L x y := fun x y => Int.mul_nonneg (by have := W.c0; omega) (dirc_nonneg L x y)
  have hwt : wtot (Ws ++ [(L, c)]) = wtot Ws + c := by unfold wtot; rw [List.map_append, List.sum_append]; simp
  refine ⟨fun x y => by rw [← H.so x y]; unfold lessF; simp, fun x y => ?_, ?_, fun w hw => ?_, fun x y => ?_, ?_⟩
  · rw [hq]; have h1 := hroom x y; have h2 := hcd x y; have h3 := H.rg x y; omega
  · have h1 := H.lf.less (L := L) (a := a) (z := last) (c := c) (by rw [hs]; rfl) W.bk.tail hL ha hz hroom
    rw [show V - wtot Ws - c = V - wtot (Ws ++ [(L, c)]) by rw [hwt]; omega] at h1
    exact h1.congr (fun x y => by rw [hq]; exact hroom x y) (fun x y _ _ => (hq x y).symm)
  · rcases List.mem_append.1 hw with hw | hw
    · exact H.ok w hw
    · rw [List.mem_singleton.1 hw]
      exact ⟨hgood, W.c0, hL, hlen, ⟨hL, by have := W.c0; show 0 ≤ c; omega, a, last, by rw [hs]; rfl, W.bk.tail, ha, hz⟩⟩
  · rw [wuse_snoc, hq, hq]
    have h1 := H.us x y
    show wuse Ws x y + c * use2 L x y + _ + _ ≤ _
    unfold use2
    rw [Int.mul_add]
    omega
  · rw [hwt, List.length_append, List.length_singleton]
    have h1 := H.many
    have h2 := W.c0
    omega
end
end Go.Proofs.Ytkjcnkkmhkcddaa
/-
  While a walk is taken out of a flow, step by step; rows of walks.
-/
namespace Go.Proofs.Ytkjcnkkmhkcddaa
open Go.RowKit Go.Shelf
open Lim

/-- what is left behind the first i steps of a walk -/
def lessP (F : Nat → Nat → Option Int) (c : Int) (L : List Nat) (i x y : Nat) : Option Int := (F x y).map fun v => v - c * dirc (L.take (i + 1)) x y
section
variable {F : Nat → Nat → Option Int} {c : Int} {L : List Nat} {i a b : Nat}
theorem lessP_zero : lessP F c L 0 = F := by
  funext x y
  have : dirc (L.take 1) x y = 0 := by
    cases L with
    | nil => rfl
    | cons a L => rfl
  simp [lessP, this]
theorem lessP_some (x y : Nat) : (lessP F c L i x y).isSome = (F x y).isSome := by simp [lessP]
theorem lessP_getD (x y : Nat) (h : (F x y).isSome = true) : (lessP F c L i x y).getD 0 = (F x y).getD 0 - c * dirc (L.take (i + 1)) x y := by
  obtain ⟨v, hv⟩ := Option.isSome_iff_exists.1 h
  simp [lessP, hv]
theorem lessP_step (ha : L[i]? = some a) (hb : L[i + 1]? = some b) (h1 : (F a b).isSome = true) :
    (fun u v => if u = a ∧ v = b then some ((lessP F c L i a b).getD 0 - c) else lessP F c L i u v) = lessP F c L (i + 1) := by
  have ht : L.take (i + 1 + 1) = L.take (i + 1) ++ [b] := by rw [List.take_add_one, hb]; rfl
  have hl : (L.take (i + 1)).getLast? = some a := by rw [List.take_add_one, ha]; simp
  have hs : ∀ x y, dirc (L.take (i + 1 + 1)) x y = dirc (L.take (i + 1)) x y + (if x = a ∧ y = b then 1 else 0) := fun x y => by rw [ht]; exact dirc_snoc b x y _ a hl
  obtain ⟨v1, e1⟩ := Option.isSome_iff_exists.1 h1
  funext x y
  by_cases e : x = a ∧ y = b
  · obtain ⟨rfl, rfl⟩ := e
    rw [if_pos ⟨rfl, rfl⟩, lessP_getD _ _ h1]
    unfold lessP
    rw [hs, if_pos ⟨rfl, rfl⟩, e1]
    simp only [Option.getD_some, Option.map_some, Option.some.injEq, Int.mul_add]
    omega
  · rw [if_neg e]
    unfold lessP
    rw [hs, if_neg e, Int.add_zero]
theorem lessP_end (hL : L ≠ []) : lessP F c L (L.length - 1) = lessF F c L := by
  have : L.take (L.length - 1 + 1) = L := by
    have : 0 < L.length := List.length_pos_iff.2 hL
    rw [show L.length - 1 + 1 = L.length by omega, List.take_length]
  funext x y
  unfold lessP lessF
  rw [this]
theorem lessP_range (hc : 1 ≤ c) (hr : ∀ x y, 0 ≤ (F x y).getD 0 ∧ (F x y).getD 0 ≤ 1000) (hroom : ∀ x y, 0 ≤ (F x y).getD 0 - c * dirc L x y) (x y : Nat) : 0 ≤ (lessP F c L i x y).getD 0 ∧ (lessP F c L i x y).getD 0 ≤ 1000 := by
  cases h : F x y with
  | none => simp [lessP, h]
  | some v =>
    rw [lessP_getD x y (by rw [h]; rfl)]
    have h1 := hroom x y
    have h2 := hr x y
    have h3 := dirc_take_le x y L (i + 1)
    have h4 : c * dirc (L.take (i + 1)) x y ≤ c * dirc L x y := Int.mul_le_mul_of_nonneg_left h3 (by omega)
    have h5 := Int.mul_nonneg (show 0 ≤ c by omega) (dirc_nonneg (L.take (i + 1)) x y)
    omega
end
/-- a row of walks: where each lies, and of how many it is -/
def wkC (ps : List (Value × List Nat × Int)) : List Value := ps.flatMap fun p => [p.1, .int .i64 p.2.2]
def rwW (v : Value) (n : Nat) (ps : List (Value × List Nat × Int)) : Row := ⟨83, 2, v, n, wkC ps⟩
/-- the lists of the walks -/
def rwL (ps : List (Value × List Nat × Int)) : List Row := ps.map fun p => rwI p.1 p.2.1.length (p.2.1.map Int.ofNat)
def wkI (ps : List (Value × List Nat × Int)) : List (List Int × Int) := ps.map fun p => (p.2.1.map Int.ofNat, p.2.2)
theorem wkC_snoc (ps : List (Value × List Nat × Int)) (p : Value × List Nat × Int) : wkC (ps ++ [p]) = wkC ps ++ [p.1, .int .i64 p.2.2] := by simp [wkC]
theorem wkC_at : ∀ (ps : List (Value × List Nat × Int)) (k : Nat) (p : Value × List Nat × Int), ps[k]? = some p → (wkC ps)[k * 2]? = some p.1 ∧ (wkC ps)[k * 2 + 1]? = some (.int .i64 p.2.2)
  | [], k, p, h => by simp at h
  | q :: ps, 0, p, h => by
    have e : q = p := by simpa using h
    subst e
    exact ⟨rfl, rfl⟩
  | q :: ps, k + 1, p, h => by
    have ih := wkC_at ps k p (by simpa using h)
    have e : wkC (q :: ps) = q.1 :: .int .i64 q.2.2 :: wkC ps := rfl
    rw [e, show (k + 1) * 2 = k * 2 + 1 + 1 by omega]
    exact ⟨by rw [List.getElem?_cons_succ, List.getElem?_cons_succ]; exact ih.1, by rw [List.getElem?_cons_succ, List.getElem?_cons_succ]; exact ih.2⟩
/-- what Proves asks of walks in memory -/
theorem wkR_of {w : World} {S : Nat} {v : Value} {W : World} {ps : List (Value × List Nat × Int)} (H : Mem w S (rwL ps) [rwW v ps.length ps] [] W) : WkR W.heap.size W v (wkI ps) := by
  have ho : W.ownsRow S 83 2 v ps.length (wkC ps) := H.q (rwW v ps.length ps) (List.mem_singleton.2 rfl)
  have hlen : (wkI ps).length = ps.length := by simp [wkI]
  obtain ⟨a, cap, e⟩ := row_form (r := rwW v ps.length ps) ho
  have e : v = .slice a ps.length cap := e
  refine ⟨a, cap, by rw [hlen]; exact e, fun hn => ?_⟩
  rw [hlen] at hn
  obtain ⟨g, cap', e2⟩ := form_pos (r := rwW v ps.length ps) ho hn
  have e2 : v = .slice (some ⟨g, 0, none⟩) ps.length cap' := e2
  rw [e] at e2
  cases e2
  have hg := (ho.lt g (by rw [e]; rfl)).2
  refine ⟨g, 0, rfl, hg, fun k hk => ?_⟩
  rw [hlen] at hk
  obtain ⟨p, hp⟩ : ∃ p, ps[k]? = some p := ⟨_, List.getElem?_eq_getElem hk⟩
  obtain ⟨h1, h2⟩ := wkC_at ps k p hp
  have hget : (wkI ps).getD k ([], 0) = (p.2.1.map Int.ofNat, p.2.2) := by
    rw [List.getD_eq_getElem?_getD]; simp [wkI, hp]
  have hr : (rwI p.1 p.2.1.length (p.2.1.map Int.ofNat)).Owned W S := H.r _ (List.mem_map.2 ⟨p, List.mem_of_getElem? hp, rfl⟩)
  have hrs : RS W.heap.size W p.1 (p.2.1.map Int.ofNat).length (ints (p.2.1.map Int.ofNat)) := by rw [List.length_map]; exact RS.of_owns hr
  have hrs2 := hrs
  obtain ⟨pa, pc, e3, -⟩ := hrs
  have c1 := row_cell (r := rwW v ps.length ps) ho (by rw [e]; rfl) h1
  have c2 := row_cell (r := rwW v ps.length ps) ho (by rw [e]; rfl) h2
  refine ⟨pa, pc, ?_, ?_, ?_, ?_⟩
  · rw [hget, Nat.zero_add, c1, e3]
  · rw [hget, Nat.zero_add]; exact c2
  · rw [hget]; show RS _ W (.slice pa (p.2.1.map Int.ofNat).length pc) _ _; rw [← e3]; exact hrs2
  · rw [hget]
    show (p.2.1.map Int.ofNat).length ≤ pc
    rw [List.length_map]
    rcases hr.2 with ⟨h3, h4⟩ | ⟨g2, cap2, cur, h3, -, -, h4, -⟩
    · have h4 : p.2.1.length = 0 := h4
      omega
    · have h3 : p.1 = .slice (some ⟨g2, 0, none⟩) p.2.1.length cap2 := h3
      rw [e3] at h3
      simp only [Value.slice.injEq] at h3
      rw [h3.2.2]
      exact h4
end Go.Proofs.Ytkjcnkkmhkcddaa
/-
  What walks out of a flow prove, in plain words; a row of walks grows.
-/
namespace Go.Proofs.Ytkjcnkkmhkcddaa
open Go.RowKit Go.Shelf
open Lim

theorem WayM.good {m : Mp} {F : Nat → Nat → Option Int} {M : Nat → Bool} {rk : Nat → Nat} {t last a : Nat} {L : List Nat} {c : Int} (W : WayM m F M rk t last a L c) (ha : m.own a = 0) (hz : m.own last = 1) : goodW m L = true := by
  obtain ⟨s, hs⟩ := W.bk.head
  have hpos : 0 < L.length := by rw [hs]; exact Nat.succ_pos _
  have e0 : L.getD 0 0 = a := by rw [hs]; rfl
  have e1 : L.getD (L.length - 1) 0 = last := by
    have h := W.bk.tail
    rw [List.getLast?_eq_getElem?] at h
    rw [List.getD_eq_getElem?_getD, h]; rfl
  refine goodW_iff.2 ⟨?_, by rw [e0]; exact ha, by rw [e1]; exact hz⟩
  unfold goesB
  rw [Bool.and_eq_true, decide_eq_true_eq]
  refine ⟨(goesTo_iff _).2 fun j hj => ?_, hpos⟩
  have x1 : L[j]? = some (L.getD j 0) := by rw [List.getD_eq_getElem?_getD, List.getElem?_eq_getElem (by omega)]; rfl
  have x2 : L[j + 1]? = some (L.getD (j + 1) 0) := by rw [List.getD_eq_getElem?_getD, List.getElem?_eq_getElem (by omega)]; rfl
  have hsp : L = L.take j ++ L.getD j 0 :: L.getD (j + 1) 0 :: L.drop (j + 2) := by
    have y1 : L.drop (j + 1) = L.getD (j + 1) 0 :: L.drop (j + 2) := by
      obtain ⟨h1, h2⟩ := List.getElem?_eq_some_iff.1 x2
      have := List.drop_eq_getElem_cons h1
      rw [h2] at this; exact this
    have y2 : L.drop j = L.getD j 0 :: L.drop (j + 1) := by
      obtain ⟨h1, h2⟩ := List.getElem?_eq_some_iff.1 x1
      have := List.drop_eq_getElem_cons h1
      rw [h2] at this; exact this
    rw [← y1, ← y2, List.take_append_drop]
  exact (W.bk.adj _ _ _ _ hsp).1
/-- what Walks answers: walks that are right, as many as a division cuts -/
structure WkDone (m : Mp) (h : Nat → Nat → Option Int) (Ws : Wks) : Prop where
  ok : ∀ w ∈ Ws, goodW m w.1 = true ∧ (1 ≤ w.2 ∧ w.2 ≤ 1000) ∧ (∀ p ∈ w.1, p < m.n) ∧ w.1.length ≤ 100
  us : ∀ a b, wuse Ws a b ≤ (h a b).getD 0
  many : (Ws.length : Int) ≤ wtot Ws
  cut : ∃ D, Keeps m.n m.own D ∧ wtot Ws = cutOf m.n (fun a b => (h a b).getD 0) D
section
variable {m : Mp} {h F : Nat → Nat → Option Int} {V : Int} {Ws : Wks} {D : Nat → Bool}
theorem WkS.le (H : WkS m h V F Ws) (K : Keeps m.n m.own D) (hV : V = cutOf m.n (fun a b => (h a b).getD 0) D) : wtot Ws ≤ V := by
  rw [hV]
  refine walks_le (fun w hw => (H.ok w hw).2.2.2.2) (fun x y _ _ => ?_) K
  have h1 := H.us x y
  have h2 := (H.rg x y).1
  have h3 := (H.rg y x).1
  omega
theorem sm_bound {f : Nat → Int} {c : Int} : ∀ n, (∀ a, a < n → f a ≤ c) → sm n f ≤ n * c
  | 0, _ => by simp [sm]
  | n + 1, hf => by
    have h1 := sm_bound n (fun a ha => hf a (by omega))
    have h2 := hf n (by omega)
    rw [sm, show ((n + 1 : Nat) : Int) * c = n * c + c by rw [Int.natCast_add, Int.add_mul]; simp]
    omega
theorem WkS.length_le (H : WkS m h V F Ws) (K : Keeps m.n m.own D) (hV : V = cutOf m.n (fun a b => (h a b).getD 0) D) (hn : m.n ≤ 100) (hh : ∀ a b, 0 ≤ (h a b).getD 0 ∧ (h a b).getD 0 ≤ 1000) : Ws.length ≤ 10000000 := by
  have h1 := H.many
  have h2 := H.le K hV
  have h3 : V ≤ m.n * (m.n * 1000 : Int) := by
    rw [hV]
    refine sm_bound m.n fun a ha => sm_bound m.n fun b hb => ?_
    have := hh a b
    show (if D a = false ∧ D b = true then (h a b).getD 0 else 0) ≤ 1000
    split <;> omega
  have h4 : (m.n : Int) * (m.n * 1000 : Int) ≤ 100 * (100 * 1000) := by
    have h5 : (m.n : Int) * 1000 ≤ 100 * 1000 := by omega
    have h6 : (m.n : Int) * (m.n * 1000 : Int) ≤ m.n * (100 * 1000) := Int.mul_le_mul_of_nonneg_left h5 (by omega)
    omega
  omega
theorem WkS.done (H : WkS m h V F Ws) (hnb : ∀ a b, (h a b).isSome = true → nb m a b) {M : Nat → Bool} {Fr : Nat → Int} {rk : Nat → Nat} {t : Nat} (I : DInv m.n (edR m F) (fun k => m.own k = 0) (fun k => m.own k = 1) M Fr rk t []) (hown : ∀ k, k < m.n → m.own k = -1 ∨ m.own k = 0 ∨ m.own k = 1)
    (K : Keeps m.n m.own D) (hV : V = cutOf m.n (fun a b => (h a b).getD 0) D) : WkDone m h Ws := by
  obtain ⟨h1, h2, h3⟩ := I.closed
  have K2 : Keeps m.n m.own (fun k => !M k) := fun k hk => by
    rcases hown k hk with e | e | e
    · exact .inl e
    · exact .inr (.inl ⟨e, by simp [h3 k hk e]⟩)
    · refine .inr (.inr ⟨e, ?_⟩)
      cases hm : M k with
      | false => simp [hm]
      | true => exact absurd e (h2 k hm)
  have hz : V - wtot Ws ≤ 0 := H.lf.none K2 fun a b ha hb hDa hDb => by
    have hMa : M a = true := by simpa using hDa
    have hMb : M b = false := by simpa using hDb
    have hne := h1 a b ha hb hMa hMb
    cases hR : F a b with
    | none => rfl
    | some v =>
      apply Classical.byContradiction
      intro hv
      exact hne ⟨hnb a b (by rw [← H.so a b, hR]; rfl), by rw [hR]; exact hv⟩
  have hle := H.le K hV
  refine ⟨fun w hw => let h := H.ok w hw; ⟨h.1, h.2.1, h.2.2.1, h.2.2.2.1⟩, fun a b => ?_, H.many, D, K, by rw [← hV]; omega⟩
  have h1 := H.us a b
  have h2 := (H.rg a b).1
  have h3 := (H.rg b a).1
  omega
end
theorem rwL_snoc (ps : List (Value × List Nat × Int)) (p : Value × List Nat × Int) : rwL (ps ++ [p]) = rwL ps ++ [rwI p.1 p.2.1.length (p.2.1.map Int.ofNat)] := by simp [rwL]
theorem cell_two_new (w : World) (x y : Value) (t : TypeId) : ∀ j u, [x, y][j]? = some u → (w.alloc (.cells #[x, y] t)).cell? ((⟨w.heap.size, 0, none⟩ : Addr).add j) = some u := by
  intro j u hj
  match j, hj with
  | 0, hj => simp at hj; subst hj; rw [Addr.add_lit]; simp [go_sem]
  | 1, hj => simp at hj; subst hj; rw [Addr.add_lit]; simp [go_sem]
  | n + 2, hj => simp at hj
end Go.Proofs.Ytkjcnkkmhkcddaa
