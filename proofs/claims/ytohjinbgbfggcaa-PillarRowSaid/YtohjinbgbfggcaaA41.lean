/-
  Parts of the proof, in the order in which they build: Pd.
-/
import Derived.Deep.CutRange
import Derived.BigQuiet
import Derived.Test.YtohjinbgbfggcaaA40
set_option linter.unusedVariables false
set_option linter.unusedSimpArgs false
namespace Go.Proofs.Ytohjinbgbfggcaa
open Go.RowKit Go.Shelf
open Lim

/-- a profile that is made, with a truth -/
structure MadeP (M : Nat) (p : Pf) (T : List Int) : Prop where
  n : 2 ≤ p.ats.length ∧ p.ats.length ≤ M
  gl : p.gr.length = p.ats.length
  tl : T.length = p.ats.length
  tall : 0 ≤ p.tall ∧ p.tall ≤ 29
  bd : 0 ≤ p.lo ∧ p.lo ≤ p.hi ∧ p.hi ≤ 398
  h : ∀ c, c < p.ats.length → 0 ≤ (p.gr.getD c (0, 0)).1 ∧ (p.gr.getD c (0, 0)).1 ≤ T.getD c 0 ∧ T.getD c 0 ≤ (p.gr.getD c (0, 0)).2 ∧ (p.gr.getD c (0, 0)).2 ≤ 67
  a0 : ∀ c, c < p.ats.length → 0 ≤ p.ats.getD c 0 ∧ p.ats.getD c 0 ≤ 49 + 400 * c
  a1 : ∀ c, c + 1 < p.ats.length → p.ats.getD c 0 < p.ats.getD (c + 1) 0
/-- what Made answers -/
def PMadeAns (M d c0 : Nat) (w : World) (e : Ending) (w' : World) : Prop :=
  ∃ (av gv tv : Value) (p : Pf) (T : List Int) (c' : Nat), e = .returned (.tuple #[.agg #[av, gv, .int .i64 p.tall, .int .i64 p.lo, .int .i64 p.hi], tv]) ∧ MadeP M p T ∧ Deck w' d c' ∧ c' ≤ c0 + 200 ∧ w.grownBy w' (some d) ∧
    w'.ownsRow w.heap.size 3 1 av p.ats.length (ints p.ats) ∧ w'.ownsRow w.heap.size 28 2 gv p.gr.length (spans p.gr) ∧ w'.ownsRow w.heap.size 3 1 tv T.length (ints T)
theorem getD_snoc {α : Type} (l : List α) (x d : α) (c : Nat) : (l ++ [x]).getD c d = if c < l.length then l.getD c d else if c = l.length then x else d := by
  rw [List.getD_eq_getElem?_getD, List.getD_eq_getElem?_getD]
  by_cases h : c < l.length
  · rw [if_pos h, List.getElem?_append_left h]
  · rw [if_neg h, List.getElem?_append_right (by omega)]
    by_cases h2 : c = l.length
    · rw [if_pos h2, h2, Nat.sub_self]; rfl
    · rw [if_neg h2, List.getElem?_eq_none (by simp; omega)]; rfl
theorem Cells3.snoc {k : Nat} {hs : List Int} {ss : List (Int × Int)} {T : List Int} (H : Cells3 k hs ss T) {x y z h : Int} (h1 : 0 ≤ x ∧ x ≤ h ∧ h ≤ y ∧ y ≤ 67) (h2 : 0 ≤ z ∧ z ≤ 49 + 400 * k) (h3 : ∀ c, c < k → hs.getD c 0 < z) : Cells3 (k + 1) (hs ++ [z]) (ss ++ [(x, y)]) (T ++ [h]) := by
  refine ⟨by simp [H.l1], by simp [H.l2], by simp [H.l3], fun c hc => ?_, fun c hc => ?_, fun c hc => ?_⟩
  · rw [getD_snoc, getD_snoc, H.l2, H.l3]
    by_cases e : c < k
    · rw [if_pos e, if_pos e]; exact H.h c e
    · rw [if_neg e, if_neg e, if_pos (by omega), if_pos (by omega)]; exact h1
  · rw [getD_snoc, H.l1]
    by_cases e : c < k
    · rw [if_pos e]; exact H.a0 c e
    · rw [if_neg e, if_pos (by omega)]
      have : c = k := by omega
      subst this
      exact h2
  · rw [getD_snoc, getD_snoc, H.l1, if_pos (by omega)]
    by_cases e : c + 1 < k
    · rw [if_pos e]; exact H.a1 c e
    · rw [if_neg e, if_pos (by omega)]; exact h3 c (by omega)
theorem MaS.out {w : World} {d : Nat} {wd : Int × Int × Int} {c : Nat} {hv sv tv : Value} {k : Nat} {hs : List Int} {ss : List (Int × Int)} {T : List Int} {u6 : Row} {W : World} (H : MaS w d wd c hv sv tv k hs ss T u6 W) (a b c1 d1 e1 : Value) (W' : World) (hW : W' = ((((W.setCell ⟨w.heap.size, 0, none⟩ a).setCell ⟨w.heap.size, 1, none⟩ b).setCell ⟨w.heap.size, 2, none⟩ c1).setCell ⟨w.heap.size, 3, none⟩ d1).setCell ⟨w.heap.size, 4, none⟩ e1) :
    Deck W' d c ∧ w.grownBy W' (some d) ∧ W'.ownsRow w.heap.size 3 1 hv k (ints hs) ∧ W'.ownsRow w.heap.size 28 2 sv k (spans ss) ∧ W'.ownsRow w.heap.size 3 1 tv k (ints T) := by
  have hl := H.lt
  have ht : ∀ i, i < 3 → 30 ≠ (rows3 hv sv tv k hs ss T (nilRow 3 1) (nilRow 28 2) (nilRow 3 1) u6 i).e := fun i hi => by
    match i with
    | 0 => show 30 ≠ 3; decide
    | 1 => show 30 ≠ 28; decide
    | 2 => show 30 ≠ 3; decide
    | i + 3 => omega
  have far : ∀ k, k ≠ w.heap.size → W'.heap[k]? = W.heap[k]? := fun k hk => by
    rw [hW, Below.heap_setCell _ _ _ k hk, Below.heap_setCell _ _ _ k hk, Below.heap_setCell _ _ _ k hk, Below.heap_setCell _ _ _ k hk, Below.heap_setCell _ _ _ k hk]
  have own : ∀ i, i < 3 → (rows3 hv sv tv k hs ss T (nilRow 3 1) (nilRow 28 2) (nilRow 3 1) u6 i).Owned W' w.heap.size := fun i hi =>
    owned_keep (H.sep.own i (by omega)) (fun q hq => far q (fun e => by
      obtain ⟨-, -, cs, hc⟩ := owned_block (H.sep.own i (by omega)) hq
      rw [e, H.zz] at hc
      exact ht i hi (Obj.cells.inj (Option.some.inj hc)).2.1))
  refine ⟨?_, ?_, own 0 (by omega), own 1 (by omega), own 2 (by omega)⟩
  · subst hW; exact ((((H.dk.far (by omega) 0 _).far (by omega) 1 _).far (by omega) 2 _).far (by omega) 3 _).far (by omega) 4 _
  · subst hW; exact grown_far (grown_far (grown_far (grown_far (grown_far H.gr (Nat.le_refl _) 0 _) (Nat.le_refl _) 1 _) (Nat.le_refl _) 2 _) (Nat.le_refl _) 3 _) (Nat.le_refl _) 4 _
theorem results_ct {P : Program} {fn : Func} {p u : Tmp} {ty : TypeId} (h : fn.results = #[.cell p ty, .tmp u]) (tmps : Array Value) (w : World) (b : Nat) (v : Value)
    (hp : tmps.getD p undef = .pointer (some ⟨b, 0, none⟩)) (hl : (loadVar ty ⟨b, 0, none⟩).run P w = .ok v w) : (results fn tmps).run P w = .ok (.tuple #[v, tmps.getD u undef]) w := by
  have hp' : tmps[p]?.getD undef = .pointer (some ⟨b, 0, none⟩) := by simpa using hp
  simp [results, h, hp', asAddr, hl]
theorem load_prof {w : World} {b : Nat} {x y z u v : Value} (h0 : w.cell? ⟨b, 0, none⟩ = some x) (h1 : w.cell? ⟨b, 1, none⟩ = some y) (h2 : w.cell? ⟨b, 2, none⟩ = some z) (h3 : w.cell? ⟨b, 3, none⟩ = some u) (h4 : w.cell? ⟨b, 4, none⟩ = some v) : (loadVar 30 ⟨b, 0, none⟩).run Try.prog w = .ok (.agg #[x, y, z, u, v]) w :=
  run_loadVar_mid w b 0 30 [x, y, z, u, v] _ (five_range h0 h1 h2 h3 h4) Try.underlying30 rfl Try.infoProf
theorem MaS.bend {w : World} {d : Nat} {wd : Int × Int × Int} {c : Nat} {hv sv tv : Value} {k : Nat} {hs : List Int} {ss : List (Int × Int)} {T : List Int} {u6 : Row} {W : World} (H : MaS w d wd c hv sv tv k hs ss T u6 W) (hu : 30 ≠ u6.e) (x y : Int) :
    MaS w d (wd.1, x, y) c hv sv tv k hs ss T u6 ((W.setCell ⟨w.heap.size + 1, 3, none⟩ (.int .i64 x)).setCell ⟨w.heap.size + 1, 4, none⟩ (.int .i64 y)) := by
  have ht : ∀ i, i < 7 → 30 ≠ (rows3 hv sv tv k hs ss T (nilRow 3 1) (nilRow 28 2) (nilRow 3 1) u6 i).e := fun i hi => by
    match i with
    | 0 => show 30 ≠ 3; decide
    | 1 => show 30 ≠ 28; decide
    | 2 => show 30 ≠ 3; decide
    | 3 => show 30 ≠ 3; decide
    | 4 => show 30 ≠ 28; decide
    | 5 => show 30 ≠ 3; decide
    | 6 => exact hu
    | i + 7 => omega
  have hl := H.lt
  have hb1 : (W.setCell ⟨w.heap.size + 1, 3, none⟩ (.int .i64 x)).heap[w.heap.size + 1]? = some (.cells #[hv, sv, .int .i64 wd.1, .int .i64 x, .int .i64 wd.2.2] 30 (0, 0)) := by rw [heap_setCell_self _ H.bx]; rfl
  exact ⟨grown_far (grown_far H.gr (Nat.le_succ _) 3 _) (Nat.le_succ _) 4 _, (H.dk.far (Nat.lt_succ_of_lt hl) 3 _).far (Nat.lt_succ_of_lt hl) 4 _,
    (Below.heap_setCell _ ⟨w.heap.size + 1, 4, none⟩ _ _ (by show w.heap.size ≠ w.heap.size + 1; omega)).trans ((Below.heap_setCell _ ⟨w.heap.size + 1, 3, none⟩ _ _ (by show w.heap.size ≠ w.heap.size + 1; omega)).trans H.zz),
    by rw [heap_setCell_self _ hb1]; rfl, (H.sep.setAt H.bx ht _).setAt hb1 ht _, hl⟩
set_option maxRecDepth 20000 in
set_option maxHeartbeats 8000000 in
theorem pmade_any {d c0 M : Nat} {w : World} (hd : Deck w d c0) (hc0 : c0 ≤ 100000) (hM : 2 ≤ M ∧ M ≤ 12) :
    Calls Try.prog 5 #[.pointer (some ⟨d, 0, none⟩), .int .i64 (M : Int)] w fun e w' => PMadeAns M d c0 w e w' := by
  have hdl : d < w.heap.size := by obtain ⟨cv, l, k, s, h, -⟩ := hd; exact World.block_lt_of_cell? _ _ h.c.1
  have hb0 : Below w.heap.size w (w.alloc (.cells #[.slice none 0 0, .slice none 0 0, .int .i64 0, .int .i64 0, .int .i64 0] 30)) := (Below.refl _ w).alloc (Nat.le_refl _) _
  have hz0 := heap_alloc_new w (.cells #[.slice none 0 0, .slice none 0 0, .int .i64 0, .int .i64 0, .int .i64 0] 30)
  have HW0 := Lib.hid (And.intro (hd.below hb0) (And.intro (grown_on (grown_refl w (some d)) hb0) (And.intro hz0 hdl)))
  have hs0 : (w.alloc (.cells #[.slice none 0 0, .slice none 0 0, .int .i64 0, .int .i64 0, .int .i64 0] 30)).heap.size = w.heap.size + 1 := by simp
  have HS0 := Lib.hid hs0
  obtain ⟨i0, hi, hz0, hz1, hz2⟩ := info_parts Try.infoSpan
  have HSP := Lib.hid (And.intro hi (And.intro hz0 (And.intro hz1 hz2)))
  clear hi hz0 hz1 hz2
  obtain ⟨i1, hi, hz0, hz1, hz2⟩ := info_parts Try.infoInt
  have HIN := Lib.hid (And.intro hi (And.intro hz0 (And.intro hz1 hz2)))
  clear hi hz0 hz1 hz2
  have HM0 := Lib.hid (And.intro hM hc0)
  clear hb0 hdl hd hs0 hM hc0
  go_enter Try.func5, Try.ntmps5
  go_wp2_with fail
  refine (deck_draw HW0.out.1 (by have := HM0.out; omega)).mono ?_
  rintro e w1 ⟨tl, rfl, htl, hd1⟩
  have hs1 : w1.heap.size = w.heap.size + 1 := hd1.2.2.trans HS0.out
  have hb2 : Below w1.heap.size w1 (w1.alloc (.cells #[.slice none 0 0, .slice none 0 0, .int .i64 tl, .int .i64 0, .int .i64 0] 30)) := (Below.refl _ w1).alloc (Nat.le_refl _) _
  have hbx := heap_alloc_new w1 (.cells #[.slice none 0 0, .slice none 0 0, .int .i64 tl, .int .i64 0, .int .i64 0] 30)
  rw [hs1] at hbx
  have HTL : Hid (0 ≤ tl ∧ tl ≤ 29) := Lib.hid (by have := htl.2.2 (by omega); omega)
  have HM2 : Hid (MaS w d (tl, 0, 0) (c0 + 1) (.slice none 0 0) (.slice none 0 0) (.slice none 0 0) 0 [] [] [] (nilRow 28 2) (w1.alloc (.cells #[.slice none 0 0, .slice none 0 0, .int .i64 tl, .int .i64 0, .int .i64 0] 30))) := Lib.hid (by
    have hzl := (Array.getElem?_eq_some_iff.1 HW0.out.2.2.1).1
    have hl := HW0.out.2.2.2
    have hz1 := (hd1.2.1.block _ hzl (fun e => by cases e; omega)).trans HW0.out.2.2.1
    refine ⟨grown_on (grown_trans HW0.out.2.1 hd1.2.1) hb2, hd1.1.below hb2, heap_grow hz1 hb2, hbx, ⟨fun i hi => ?_, fun i j hi hj hij k hk => ?_⟩, hl⟩
    · match i with
      | 0 => exact nilRow_owned _ _ _ _
      | 1 => exact nilRow_owned _ _ _ _
      | 2 => exact nilRow_owned _ _ _ _
      | 3 => exact nilRow_owned _ _ _ _
      | 4 => exact nilRow_owned _ _ _ _
      | 5 => exact nilRow_owned _ _ _ _
      | 6 => exact nilRow_owned _ _ _ _
      | i + 7 => omega
    · match i with
      | 0 => cases hk
      | 1 => cases hk
      | 2 => cases hk
      | 3 => cases hk
      | 4 => cases hk
      | 5 => cases hk
      | 6 => cases hk
      | i + 7 => omega)
  clear hd1 hb2 hbx HW0 HS0 htl
  go_wp2_with fail
  generalize w1.alloc (.cells #[.slice none 0 0, .slice none 0 0, .int .i64 tl, .int .i64 0, .int .i64 0] 30) = w2 at HM2 ⊢
  refine (deck_draw HM2.out.dk (by have := HM0.out; omega)).mono ?_
  rintro e w3 ⟨b1, rfl, hb1, hd⟩
  have HM3 := Lib.hid (HM2.out.dealt hd)
  have HB1 : Hid (0 ≤ b1 ∧ b1 ≤ 199) := Lib.hid (by have := hb1.2.2 (by omega); omega)
  clear HM2 hb1 hd hs1
  go_wp2_with fail
  refine (deck_draw HM3.out.dk (by have := HM0.out; omega)).mono ?_
  rintro e w4 ⟨b2, rfl, hb2, hd⟩
  have HM4 := Lib.hid (HM3.out.dealt hd)
  have HB2 : Hid (0 ≤ b2 ∧ b2 ≤ 199) := Lib.hid (by have := hb2.2.2 (by omega); omega)
  have e1 : IntKind.i64.wrap (b1 + b2) = b1 + b2 := IntWalk.i64_in _ (by have := HB1.out; have := HB2.out; omega)
  clear HM3 hb2 hd
  go_wp2_with fail
  refine (span_any _ _ _).mono ?_
  rintro e w5 ⟨rfl, hb⟩
  have HM5 := Lib.hid (HM4.out.below hb)
  obtain ⟨⟨k0, k1, k2, k3, k4⟩, f0, f1, f2, f3, f4⟩ := five_cells HM5.out.bx
  have HM6 := Lib.hid (HM5.out.bend (by show 30 ≠ 28; decide) b1 (b1 + b2))
  clear HM4 hb HM5
  go_wp2_with fail
  clear k0 k1 k2 k3 k4 f0 f1 f2 f3 f4 e1
  generalize (w5.setCell ⟨w.heap.size + 1, 3, none⟩ (.int .i64 b1)).setCell ⟨w.heap.size + 1, 4, none⟩ (.int .i64 (b1 + b2)) = w6 at HM6 ⊢
  obtain ⟨wd, hwd⟩ : ∃ wd : Int × Int × Int, wd = (tl, b1, b1 + b2) := ⟨_, rfl⟩
  rw [← hwd] at HM6
  have HWD := Lib.hid hwd
  clear hwd
  refine (deck_draw HM6.out.dk (by have := HM0.out; omega)).mono ?_
  rintro e w7 ⟨a0, rfl, ha0, hd⟩
  have HM7 := Lib.hid (HM6.out.dealt hd)
  have HA0 : Hid (0 ≤ a0 ∧ a0 ≤ 49) := Lib.hid (by have := ha0.2.2 (by omega); omega)
  clear HM6 ha0 hd
  go_wp2_with fail
  refine (deck_between HM7.out.dk (by have := HM0.out; omega) (by omega) (by have := HM0.out; omega) (by have := HM0.out; omega)).mono ?_
  rintro e w8 ⟨ni, rfl, hni, hd⟩
  have HM8 := Lib.hid (HM7.out.dealt hd)
  obtain ⟨N, hN⟩ : ∃ N : Nat, ni = (N : Int) := ⟨ni.toNat, by omega⟩
  subst hN
  have HN : Hid (2 ≤ N ∧ N ≤ M ∧ M ≤ 12) := Lib.hid (by have := HM0.out; omega)
  clear HM7 hni hd
  go_wp2_with fail
  go_loopw [8, 9, 29] (fun av v i W => ∃ (k c : Nat) (at' : Int) (hv sv : Value) (hs : List Int) (ss : List (Int × Int)) (T : List Int), k ≤ N ∧ i = .int .i64 k ∧ av = .int .i64 at' ∧ Hid (0 ≤ at' ∧ at' ≤ 49 + 400 * k ∧ ∀ j, j < k → hs.getD j 0 < at') ∧ Hid (c ≤ c0 + 5 + 8 * k) ∧ Hid (Cells3 k hs ss T) ∧ Hid (MaS w d wd c hv sv v k hs ss T (nilRow 28 2) W)) (fun _ _ i _ => N - (intOf i).toNat)
  case atStart => exact ⟨0, _, a0, _, _, [], [], [], Nat.zero_le _, rfl, rfl, Lib.hid ⟨HA0.out.1, by have := HA0.out; omega, fun j hj => by omega⟩, Lib.hid (Nat.le_refl _), Lib.hid ⟨rfl, rfl, rfl, fun c hc => by omega, fun c hc => by omega, fun c hc => by omega⟩, HM8⟩
  case round =>
    clear HM8
    obtain ⟨k, c, at', hv, sv, hs, ss, T, hk, rfl, rfl, HAT, HCC, HCL, HM⟩ := hrel
    by_cases hlt : k < N
    · have HCB : Hid (c + 10 ≤ 200000) := Lib.hid (by have h1 := HCC.out; have h2 := HN.out; have := HM0.out; omega)
      go_wp2_with fail
      refine (deck_draw (n := 60) HM.out.dk (by have := HCB.out; omega)).mono ?_
      rintro e w4 ⟨h, rfl, hh, hd⟩
      have HM4 := Lib.hid (HM.out.dealt hd)
      have HH : Hid (0 ≤ h ∧ h ≤ 59) := Lib.hid (by have := hh.2.2 (by omega); omega)
      clear hh hd HM
      go_wp2_with fail
      refine (span_any h h w4).mono ?_
      rintro e w5 ⟨rfl, hb5⟩
      have HM5 := Lib.hid (HM4.out.below hb5)
      clear hb5 HM4
      have HM6 := Lib.hid (HM5.out.span h h)
      have hps : w5.heap.size < (w5.alloc (.cells #[.int .i64 h, .int .i64 h] 28)).heap.size := by simp
      clear HM5
      go_wp2_with fail
      obtain ⟨ps, hpse⟩ : ∃ ps, ps = w5.heap.size := ⟨_, rfl⟩
      rw [← hpse] at HM6 ⊢
      clear hpse hps
      generalize (w5.alloc (.cells #[.int .i64 h, .int .i64 h] 28)) = w6 at HM6 ⊢
      refine (deck_coin (n := 2) HM6.out.dk (by have := HCB.out; omega)).mono ?_
      rintro e w7 ⟨cb, rfl, hd⟩
      have HM7 := Lib.hid (HM6.out.dealt hd)
      clear hd HM6
      go_upto_if 37 with (fail)
      go_cut [10] from 37 to 47 (fun s10 wc => s10 = .int .i64 h ∧ ∃ (x y : Int) (c' : Nat), Hid (c' ≤ c + 4 ∧ 0 ≤ x ∧ x ≤ h ∧ h ≤ y ∧ y ≤ 67) ∧ Hid (MaS w d wd c' hv sv u9 k hs ss T (spanRow ps x y) wc))
      case first =>
        cases cb with
        | false =>
          go_wp2
          go_meet
          case rel => exact ⟨rfl, h, h, _, Lib.hid ⟨by omega, by have := HH.out; omega, Int.le_refl _, Int.le_refl _, by have := HH.out; omega⟩, HM7⟩
        | true =>
          go_wp2_with fail
          refine (deck_draw (n := 9) HM7.out.dk (by have := HCB.out; omega)).mono ?_
          rintro e w8 ⟨r1, rfl, hr1, hd⟩
          have HM8 := Lib.hid (HM7.out.dealt hd)
          have hr1' : 0 ≤ r1 ∧ r1 ≤ 8 := by have := hr1.2.2 (by omega); omega
          have hh := HH.out
          have e1 : IntKind.i64.wrap (h - r1) = h - r1 := IntWalk.i64_in _ (by omega)
          have HR1 := Lib.hid hr1'
          clear hd HM7 hr1 hr1' hh
          go_wp2_with fail
          refine (deck_draw (n := 9) HM8.out.dk (by have := HCB.out; omega)).mono ?_
          rintro e w9 ⟨r2, rfl, hr2, hd⟩
          have HM9 := Lib.hid (HM8.out.dealt hd)
          have hr2' : 0 ≤ r2 ∧ r2 ≤ 8 := by have := hr2.2.2 (by omega); omega
          have hh := HH.out
          have e2 : IntKind.i64.wrap (h + r2) = h + r2 := IntWalk.i64_in _ (by omega)
          have HR2 := Lib.hid hr2'
          clear hd HM8 hr2 hr2' hh
          go_wp2_with fail
          refine (span_any _ _ w9).mono ?_
          rintro e w10 ⟨rfl, hb⟩
          have HM10 := Lib.hid (HM9.out.below hb)
          obtain ⟨⟨k0, k1⟩, f0, f1⟩ := two_cellsD (span_heap (HM10.out.sep.own 6 (by omega))).2
          have HM11 := Lib.hid (HM10.out.respan (max 0 (h - r1)) (h + r2))
          clear hb HM9 HM10
          go_wp2
          go_meet
          case rel => exact ⟨rfl, _, _, _, Lib.hid ⟨by omega, by omega, by have := HR1.out; have := HH.out; omega, by have := HR2.out; omega, by have := HR2.out; have := HH.out; omega⟩, HM11⟩
      case rest =>
        obtain ⟨rfl, x, y, c2, HX, HM10⟩ := hcut
        clear HM7
        obtain ⟨z, hz⟩ : ∃ z, z = at' := ⟨_, rfl⟩
        rw [← hz]
        subst hz
        go_wp2_with fail
        have HM11 := Lib.hid (HM10.out.below (Below.refl _ wc).drew)
        have hC : (fun W => W.cell? ⟨w.heap.size + 1, 0, none⟩ = some hv ∧ W.cell? ⟨w.heap.size + 1, 1, none⟩ = some sv ∧ W.cell? ⟨ps, 0, none⟩ = some (.int .i64 x) ∧ W.cell? ⟨ps, 1, none⟩ = some (.int .i64 y)) wc.drew := by
          have h1 := (five_cells HM11.out.bx).1
          have h2 := two_cellsD (span_heap (HM11.out.sep.own 6 (by omega))).2
          exact ⟨h1.1, h1.2.1, h2.1.1, h2.1.2⟩
        clear HM10
        refine Lim.regC' (fun W => W.cell? ⟨w.heap.size + 1, 0, none⟩ = some hv ∧ W.cell? ⟨w.heap.size + 1, 1, none⟩ = some sv ∧ W.cell? ⟨ps, 0, none⟩ = some (.int .i64 x) ∧ W.cell? ⟨ps, 1, none⟩ = some (.int .i64 y)) [15, 17] #[false, false, false, false, false, false, false, false, false, false, false, false, false, false, false, false, false, false, false] (by kernel_rfl) rfl ?_
        refine Lim.stepR 0 (fun _ => trivial) rfl (by kernel_rfl) (fun _ _ _ _ h => h) hC rfl ?_; apply Exists.intro; refine ⟨?_, ?_⟩
        · rintro w ⟨r1, r2, r3, r4⟩; go_simp; try with_reducible rfl
        simp only [Act.put, List.setIfInBounds_toArray, List.set_cons_succ, List.set_cons_zero]
        refine Lim.stepR 1 (fun _ => trivial) rfl (by kernel_rfl) (fun _ _ _ _ h => h) hC rfl ?_; apply Exists.intro; refine ⟨?_, ?_⟩
        · rintro w ⟨r1, r2, r3, r4⟩; go_simp; try with_reducible rfl
        simp only [Act.put, List.setIfInBounds_toArray, List.set_cons_succ, List.set_cons_zero]
        refine Lim.stepR 2 (fun _ => trivial) rfl (by kernel_rfl) (fun _ _ _ _ h => h) hC rfl ?_; apply Exists.intro; refine ⟨?_, ?_⟩
        · rintro w ⟨r1, r2, r3, r4⟩; go_simp; try with_reducible rfl
        simp only [Act.put, List.setIfInBounds_toArray, List.set_cons_succ, List.set_cons_zero]
        refine Lim.stepR 5 (fun _ => trivial) rfl (by kernel_rfl) (fun _ _ _ _ h => h) hC rfl ?_; apply Exists.intro; refine ⟨?_, ?_⟩
        · rintro w ⟨r1, r2, r3, r4⟩; go_simp; try with_reducible rfl
        simp only [Act.put, List.setIfInBounds_toArray, List.set_cons_succ, List.set_cons_zero]
        refine Lim.stepR 6 (fun _ => trivial) rfl (by kernel_rfl) (fun _ _ _ _ h => h) hC rfl ?_; apply Exists.intro; refine ⟨?_, ?_⟩
        · rintro w ⟨r1, r2, r3, r4⟩; go_simp; try with_reducible rfl
        simp only [Act.put, List.setIfInBounds_toArray, List.set_cons_succ, List.set_cons_zero]
        refine Lim.stepR 7 (fun _ => trivial) rfl (by kernel_rfl) (fun _ _ _ _ h => h) hC rfl ?_; apply Exists.intro; refine ⟨?_, ?_⟩
        · rintro w ⟨r1, r2, r3, r4⟩; go_simp; try with_reducible rfl
        simp only [Act.put, List.setIfInBounds_toArray, List.set_cons_succ, List.set_cons_zero]
        refine Lim.stepR 10 (fun _ => trivial) rfl (by kernel_rfl) (fun _ _ _ _ h => h) hC rfl ?_; apply Exists.intro; refine ⟨?_, ?_⟩
        · rintro w ⟨r1, r2, r3, r4⟩; go_simp; try with_reducible rfl
        simp only [Act.put, List.setIfInBounds_toArray, List.set_cons_succ, List.set_cons_zero]
        refine Lim.stepR 11 (fun _ => trivial) rfl (by kernel_rfl) (fun _ _ _ _ h => h) hC rfl ?_; apply Exists.intro; refine ⟨?_, ?_⟩
        · rintro w ⟨r1, r2, r3, r4⟩; go_simp; try with_reducible rfl
        simp only [Act.put, List.setIfInBounds_toArray, List.set_cons_succ, List.set_cons_zero]
        clear hC
        refine Lim.parE [3, 4, 8, 9, 12, 13, 14, 15, 16, 17, 18] (fun done a W => ∃ x10 x54 x55 x59 x60 x63 x64 x65 x66, a = { tmps := #[Value.pointer (some ⟨d, 0, none⟩), Value.int IntKind.i64 M, undef, undef, Value.pointer (some ⟨w.heap.size, 0, none⟩), Value.slice none 0 0, Value.pointer (some ⟨w.heap.size + 1, 0, none⟩), Value.int IntKind.i64 b1, Value.int IntKind.i64 z, x10, Value.int IntKind.i64 h, Value.pointer (some ⟨ps, 0, none⟩), Value.pointer (some ⟨d, 0, none⟩), Value.int IntKind.i64 tl, Value.agg #[Value.slice none 0 0, Value.slice none 0 0, Value.int IntKind.i64 tl, Value.int IntKind.i64 0, Value.int IntKind.i64 0], Value.pointer (some ⟨d, 0, none⟩), Value.int IntKind.i64 b1, Value.int IntKind.i64 b1, Value.int IntKind.i64 b1, Value.pointer (some ⟨d, 0, none⟩), Value.int IntKind.i64 b2, Value.int IntKind.i64 (b1 + b2), Value.agg #[Value.int IntKind.i64 b1, Value.int IntKind.i64 (b1 + b2)], Value.pointer (some ⟨w.heap.size + 1, 3, none⟩), Value.pointer (some ⟨d, 0, none⟩), Value.int IntKind.i64 a0, Value.pointer (some ⟨d, 0, none⟩), Value.int IntKind.i64 M, Value.int IntKind.i64 N, Value.int IntKind.i64 k, Value.bool true, Value.pointer (some ⟨d, 0, none⟩), Value.int IntKind.i64 h, Value.int IntKind.i64 h, Value.int IntKind.i64 h, Value.agg #[Value.int IntKind.i64 h, Value.int IntKind.i64 h], Value.pointer (some ⟨d, 0, none⟩), u37, u38, u39, u40, u41, u42, u43, u44, u45, u46, u47, Value.pointer (some ⟨w.heap.size + 1, 0, none⟩), hv, Value.int IntKind.i64 z, x54, x55, Value.pointer (some ⟨w.heap.size + 1, 1, none⟩), sv, Value.agg #[Value.int IntKind.i64 x, Value.int IntKind.i64 y], x59, x60, u9, Value.int IntKind.i64 h, x63, x64, x65, x66, u64, u65, u66, u67, u68, undef, undef], defers := [] } ∧ M15 w d wd c2 hv sv u9 k hs ss T ps x y z h done x10 x54 x55 x59 x60 x63 x64 W ∧ (done 14 = true → x65 = .pointer (some ⟨w.heap.size + 1, 0, none⟩)) ∧ (done 16 = true → x66 = .pointer (some ⟨w.heap.size + 1, 1, none⟩))) (fun _ => trivial) (by kernel_rfl) rfl ?hC ?step ?fin ⟨_, _, _, _, _, _, _, _, _, rfl, HM11.out.begin, fun h => (by cases h), fun h => (by cases h)⟩
        case hC =>
          rintro done a W ⟨x10, x54, x55, x59, x60, x63, x64, x65, x66, rfl, H, h65, h66⟩ hE
          obtain ⟨u1, u2, hc, h1, -, h2, -⟩ := H.core
          have e1 := h1 (hE 15 (by simp))
          have e2 := h2 (hE 17 (by simp))
          subst e1 e2
          have h3 := (five_cells hc.bx).1
          have h4 := two_cellsD (span_heap (hc.sep.own 6 (by omega))).2
          exact ⟨h3.1, h3.2.1, h4.1.1, h4.1.2⟩
        case step =>
          intro i o hi ho done a W hd hdep hS K hK
          obtain ⟨x10, x54, x55, x59, x60, x63, x64, x65, x66, rfl, H, h65, h66⟩ := hS
          simp only [List.mem_cons, List.not_mem_nil, or_false] at hi
          rcases hi with rfl | rfl | rfl | rfl | rfl | rfl | rfl | rfl | rfl | rfl | rfl
          · cases ho
            clear hdep
            go_simp
            refine hK _ _ ?_
            exact ⟨_, _, _, _, _, _, _, _, _, rfl, H.st3 hd, fun h => h65 (by simpa using h), fun h => h66 (by simpa using h)⟩
          · cases ho
            have h1 := hdep 3 (by kernel_rfl) (by simp)
            clear hdep
            obtain ⟨bq, rfl⟩ := H.s3 h1
            obtain ⟨u1, u2, hc, -⟩ := H.core
            have o0 : W.ownsRow w.heap.size 3 1 hv k (ints hs) := by have := hc.sep.own 0 (by omega); simpa [rowsD, hd, Row.Owned] using this
            have o3 : W.ownsRow w.heap.size 3 1 (.slice (some ⟨bq, 0, none⟩) 1 1) 1 [.int .i64 z] := by have := hc.sep.own 3 (by omega); simpa [rowsD, h1, Row.Owned] using this
            obtain ⟨v', W', hrun, hown, hgrow, -, hat⟩ := run_append_own_at (P := Try.prog) W w.heap.size 25 25 3 i1 (.int .i64 0) 1 8 Try.underlying25 HIN.out.1 HIN.out.2.1 HIN.out.2.2.1 HIN.out.2.2.2 rfl (by decide) hv k (ints hs) o0 ⟨bq, 0, none⟩ 1 1 [.int .i64 z] rfl (fun j u hj => o3.cells (g := bq) rfl j u hj) (by simp [Value.oneCell']) (by have := HN.out; unfold maxLen; omega) (by have := HN.out; omega) hc.gr.size
            refine Lim.append_upon rfl rfl rfl hrun (hK _ _ ?_)
            simp only [Act.put, List.setIfInBounds_toArray, List.set_cons_succ, List.set_cons_zero]
            exact ⟨_, _, _, _, _, _, _, _, _, rfl, H.st4 hd h1 hown hgrow hat, fun h => h65 (by simpa using h), fun h => h66 (by simpa using h)⟩
          · cases ho
            clear hdep
            go_simp
            refine hK _ _ ?_
            exact ⟨_, _, _, _, _, _, _, _, _, rfl, H.st8 hd, fun h => h65 (by simpa using h), fun h => h66 (by simpa using h)⟩
          · cases ho
            have h1 := hdep 8 (by kernel_rfl) (by simp)
            clear hdep
            obtain ⟨bq, rfl⟩ := H.s8 h1
            obtain ⟨u1, u2, hc, -⟩ := H.core
            have o0 : W.ownsRow w.heap.size 28 2 sv k (spans ss) := by have := hc.sep.own 1 (by omega); simpa [rowsD, hd, Row.Owned] using this
            have o3 : W.ownsRow w.heap.size 28 2 (.slice (some ⟨bq, 0, none⟩) 1 1) 1 [.int .i64 x, .int .i64 y] := by have := hc.sep.own 4 (by omega); simpa [rowsD, h1, Row.Owned] using this
            obtain ⟨v', W', hrun, hown, hgrow, -, hat⟩ := run_append_own_at (P := Try.prog) W w.heap.size 26 26 28 i0 (.agg #[.int .i64 0, .int .i64 0]) 2 16 Try.underlying26 HSP.out.1 HSP.out.2.1 HSP.out.2.2.1 HSP.out.2.2.2 rfl (by decide) sv k (spans ss) o0 ⟨bq, 0, none⟩ 1 1 [.int .i64 x, .int .i64 y] rfl (fun j u hj => o3.cells (g := bq) rfl j u hj) (by simp [Value.oneCell']) (by have := HN.out; unfold maxLen; omega) (by have := HN.out; omega) hc.gr.size
            refine Lim.append_upon rfl rfl rfl hrun (hK _ _ ?_)
            simp only [Act.put, List.setIfInBounds_toArray, List.set_cons_succ, List.set_cons_zero]
            exact ⟨_, _, _, _, _, _, _, _, _, rfl, H.st9 hd h1 hown hgrow hat, fun h => h65 (by simpa using h), fun h => h66 (by simpa using h)⟩
          · cases ho
            clear hdep
            go_simp
            refine hK _ _ ?_
            exact ⟨_, _, _, _, _, _, _, _, _, rfl, H.st12 hd, fun h => h65 (by simpa using h), fun h => h66 (by simpa using h)⟩
          · cases ho
            have h1 := hdep 12 (by kernel_rfl) (by simp)
            clear hdep
            obtain ⟨bq, rfl⟩ := H.s12 h1
            obtain ⟨u1, u2, hc, -⟩ := H.core
            have o0 : W.ownsRow w.heap.size 3 1 u9 k (ints T) := by have := hc.sep.own 2 (by omega); simpa [rowsD, hd, Row.Owned] using this
            have o3 : W.ownsRow w.heap.size 3 1 (.slice (some ⟨bq, 0, none⟩) 1 1) 1 [.int .i64 h] := by have := hc.sep.own 5 (by omega); simpa [rowsD, h1, Row.Owned] using this
            obtain ⟨v', W', hrun, hown, hgrow, -, hat⟩ := run_append_own_at (P := Try.prog) W w.heap.size 25 25 3 i1 (.int .i64 0) 1 8 Try.underlying25 HIN.out.1 HIN.out.2.1 HIN.out.2.2.1 HIN.out.2.2.2 rfl (by decide) u9 k (ints T) o0 ⟨bq, 0, none⟩ 1 1 [.int .i64 h] rfl (fun j u hj => o3.cells (g := bq) rfl j u hj) (by simp [Value.oneCell']) (by have := HN.out; unfold maxLen; omega) (by have := HN.out; omega) hc.gr.size
            refine Lim.append_upon rfl rfl rfl hrun (hK _ _ ?_)
            simp only [Act.put, List.setIfInBounds_toArray, List.set_cons_succ, List.set_cons_zero]
            exact ⟨_, _, _, _, _, _, _, _, _, rfl, H.st13 hd h1 hown hgrow hat, fun h => h65 (by simpa using h), fun h => h66 (by simpa using h)⟩
          · cases ho
            clear hdep
            go_simp
            refine hK _ _ ?_
            exact ⟨_, _, _, _, _, _, _, _, _, rfl, H.skip (by omega), fun h => by first | rfl | exact h65 (by simpa using h), fun h => by first | rfl | exact h66 (by simpa using h)⟩
          · cases ho
            have h1 := hdep 4 (by kernel_rfl) (by simp)
            obtain rfl := h65 (hdep 14 (by kernel_rfl) (by simp))
            clear hdep
            obtain ⟨u1, u2, hc, -⟩ := H.core
            have o0 : W.ownsRow w.heap.size 3 1 x55 (k + 1) (ints hs ++ [.int .i64 z]) := by have := hc.sep.own 0 (by omega); simpa [rowsD, h1, Row.Owned] using this
            obtain ⟨aa, ac, rfl, -⟩ := RS.of_owns o0
            obtain ⟨⟨k0, k1, k2, k3, k4⟩, f0, f1, f2, f3, f4⟩ := five_cells hc.bx
            clear hc o0
            go_simp
            refine hK _ _ ?_
            exact ⟨_, _, _, _, _, _, _, _, _, rfl, H.st15 h1, fun h => by first | rfl | exact h65 (by simpa using h), fun h => by first | rfl | exact h66 (by simpa using h)⟩
          · cases ho
            clear hdep
            go_simp
            refine hK _ _ ?_
            exact ⟨_, _, _, _, _, _, _, _, _, rfl, H.skip (by omega), fun h => by first | rfl | exact h65 (by simpa using h), fun h => by first | rfl | exact h66 (by simpa using h)⟩
          · cases ho
            have h1 := hdep 9 (by kernel_rfl) (by simp)
            obtain rfl := h66 (hdep 16 (by kernel_rfl) (by simp))
            clear hdep
            obtain ⟨u1, u2, hc, -⟩ := H.core
            have o0 : W.ownsRow w.heap.size 28 2 x60 (k + 1) (spans ss ++ [.int .i64 x, .int .i64 y]) := by have := hc.sep.own 1 (by omega); simpa [rowsD, h1, Row.Owned] using this
            obtain ⟨aa, ac, rfl, -⟩ := RS.of_owns o0
            obtain ⟨⟨k0, k1, k2, k3, k4⟩, f0, f1, f2, f3, f4⟩ := five_cells hc.bx
            clear hc o0
            go_simp
            refine hK _ _ ?_
            exact ⟨_, _, _, _, _, _, _, _, _, rfl, H.st17 h1, fun h => by first | rfl | exact h65 (by simpa using h), fun h => by first | rfl | exact h66 (by simpa using h)⟩
          · cases ho
            have h1 := hdep 13 (by kernel_rfl) (by simp)
            clear hdep
            go_simp
            refine hK _ _ ?_
            exact ⟨_, _, _, _, _, _, _, _, _, rfl, H.st18 h1, fun h => h65 (by simpa using h), fun h => h66 (by simpa using h)⟩
        case fin =>
          rintro done a W hall ⟨x10, x54, x55, x59, x60, x63, x64, x65, x66, rfl, H, h65, h66⟩
          have HM12 := Lib.hid (H.fin (hall 4 (by simp)) (hall 9 (by simp)) (hall 13 (by simp)) (hall 15 (by simp)) (hall 17 (by simp)) (hall 18 (by simp)))
          clear H hall HM11
          dsimp only
          go_wp2_with fail
          refine (deck_between HM12.out.dk (by have := HCB.out; have := HX.out; omega) (by omega) (by omega) (by omega)).mono ?_
          rintro e w11 ⟨st, rfl, hst, hd⟩
          have HM13 := Lib.hid (HM12.out.dealt hd)
          have HST := Lib.hid hst
          have ez : IntKind.i64.wrap (z + st) = z + st := IntWalk.i64_in _ (by have := HAT.out; have := HN.out; omega)
          have k12 : k < 12 := by have := HN.out; omega
          clear hd hst HM12
          go_wp2
          go_roundw
          case rel => exact ⟨k + 1, c2 + 1, z + st, _, _, hs ++ [z], ss ++ [(x, y)], T ++ [h], by omega, by go_num, rfl, Lib.hid ⟨by have := HAT.out; have := HST.out; omega, by have := HAT.out; have := HST.out; omega, fun j hj => by
              have h1 := HAT.out
              have h2 := HST.out
              rw [getD_snoc, HCL.out.l1]
              by_cases e : j < k
              · rw [if_pos e]; have := h1.2.2 j e; omega
              · rw [if_neg e, if_pos (by omega)]; omega⟩, Lib.hid (by have := HCC.out; have := HX.out; omega), Lib.hid (HCL.out.snoc HX.out.2 ⟨HAT.out.1, HAT.out.2.1⟩ HAT.out.2.2), HM13⟩
          case measure => simp [intOf]; omega
    · have hkN : N = k := by omega
      subst hkN
      obtain ⟨hb, hcap, rfl⟩ : ∃ hb hcap, hv = .slice (some ⟨hb, 0, none⟩) N hcap := by
        rcases (HM.out.sep.own 0 (by omega)).2 with ⟨h1, h2⟩ | ⟨g, cap, cur, h1, -⟩
        · have := HN.out; simp [rows3] at h2; omega
        · exact ⟨g, cap, h1⟩
      obtain ⟨sb, cap, rfl⟩ : ∃ sb cap, sv = .slice (some ⟨sb, 0, none⟩) N cap := by
        rcases (HM.out.sep.own 1 (by omega)).2 with ⟨h1, h2⟩ | ⟨g, cap, cur, h1, -⟩
        · have := HN.out; simp [rows3] at h2; omega
        · exact ⟨g, cap, h1⟩
      obtain ⟨tb, tcap, rfl⟩ : ∃ tb tcap, u9 = .slice (some ⟨tb, 0, none⟩) N tcap := by
        rcases (HM.out.sep.own 2 (by omega)).2 with ⟨h1, h2⟩ | ⟨g, cap, cur, h1, -⟩
        · have := HN.out; simp [rows3] at h2; omega
        · exact ⟨g, cap, h1⟩
      obtain ⟨⟨b0, b1', b2', b3, b4⟩, -⟩ := five_cells HM.out.bx
      obtain ⟨⟨z0, z1, z2, z3, z4⟩, zf0, zf1, zf2, zf3, zf4⟩ := five_cells HM.out.zz
      go_wp2
      obtain ⟨o1, o2, o3, o4, o5⟩ := HM.out.out (.slice (some ⟨hb, 0, none⟩) N hcap) (.slice (some ⟨sb, 0, none⟩) N cap) (.int .i64 wd.1) (.int .i64 wd.2.1) (.int .i64 wd.2.2) _ rfl
      have hbx : (((((wr.setCell ⟨w.heap.size, 0, none⟩ (.slice (some ⟨hb, 0, none⟩) N hcap)).setCell ⟨w.heap.size, 1, none⟩ (.slice (some ⟨sb, 0, none⟩) N cap)).setCell ⟨w.heap.size, 2, none⟩ (.int .i64 wd.1)).setCell ⟨w.heap.size, 3, none⟩ (.int .i64 wd.2.1)).setCell ⟨w.heap.size, 4, none⟩ (.int .i64 wd.2.2)).heap[w.heap.size]? = some (.cells #[.slice (some ⟨hb, 0, none⟩) N hcap, .slice (some ⟨sb, 0, none⟩) N cap, .int .i64 wd.1, .int .i64 wd.2.1, .int .i64 wd.2.2] 30 (0, 0)) := by
        rw [heap_setCell_self _ (heap_setCell_self _ (heap_setCell_self _ (heap_setCell_self _ (heap_setCell_self _ HM.out.zz))))]; rfl
      obtain ⟨⟨b0, b1', b2', b3, b4⟩, -⟩ := five_cells hbx
      have HFIN := Lib.hid (And.intro o1 (And.intro o2 (And.intro o3 (And.intro o4 o5))))
      clear z0 z1 z2 z3 z4 zf0 zf1 zf2 zf3 zf4 hbx o1 o2 o3 o4 o5 HM
      generalize ((((wr.setCell ⟨w.heap.size, 0, none⟩ (.slice (some ⟨hb, 0, none⟩) N hcap)).setCell ⟨w.heap.size, 1, none⟩ (.slice (some ⟨sb, 0, none⟩) N cap)).setCell ⟨w.heap.size, 2, none⟩ (.int .i64 wd.1)).setCell ⟨w.heap.size, 3, none⟩ (.int .i64 wd.2.1)).setCell ⟨w.heap.size, 4, none⟩ (.int .i64 wd.2.2) = WF at HFIN b0 b1' b2' b3 b4 ⊢
      refine bodyPost_ret (v := .tuple #[.agg #[.slice (some ⟨hb, 0, none⟩) N hcap, .slice (some ⟨sb, 0, none⟩) N cap, .int .i64 wd.1, .int .i64 wd.2.1, .int .i64 wd.2.2], .slice (some ⟨tb, 0, none⟩) N tcap]) ?_ rfl ?_
      · exact results_ct (p := 4) (u := 5) (ty := 30) rfl _ _ w.heap.size _ rfl (load_prof b0 b1' b2' b3 b4)
      have h5 := HWD.out
      have l1 := HCL.out.l1
      have l2 := HCL.out.l2
      have l3 := HCL.out.l3
      obtain ⟨o1, o2, o3, o4, o5⟩ := HFIN.out
      refine ⟨_, _, _, ⟨hs, ss, wd.1, wd.2.1, wd.2.2⟩, T, c, rfl, ⟨?_, ?_, ?_, ?_, ?_, ?_, ?_, ?_⟩, o1, ?_, o2, ?_, ?_, ?_⟩
      · show 2 ≤ hs.length ∧ hs.length ≤ M; rw [l1]; exact ⟨HN.out.1, HN.out.2.1⟩
      · show ss.length = hs.length; rw [l1, l2]
      · show T.length = hs.length; rw [l1, l3]
      · show 0 ≤ wd.1 ∧ wd.1 ≤ 29; rw [h5]; exact HTL.out
      · show 0 ≤ wd.2.1 ∧ wd.2.1 ≤ wd.2.2 ∧ wd.2.2 ≤ 398; rw [h5]; have := HB1.out; have := HB2.out; show 0 ≤ b1 ∧ b1 ≤ b1 + b2 ∧ b1 + b2 ≤ 398; omega
      · show ∀ c, c < hs.length → _; rw [l1]; exact HCL.out.h
      · show ∀ c, c < hs.length → _; rw [l1]; exact HCL.out.a0
      · show ∀ c, c + 1 < hs.length → _; rw [l1]; exact HCL.out.a1
      · have := HCC.out; have := HN.out; omega
      · show World.ownsRow _ _ _ _ _ hs.length _; rw [l1]; exact o3
      · show World.ownsRow _ _ _ _ _ ss.length _; rw [l2]; exact o4
      · rw [l3]; exact o5
end Go.Proofs.Ytohjinbgbfggcaa
