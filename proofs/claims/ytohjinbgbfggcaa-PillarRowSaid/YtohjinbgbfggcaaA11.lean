/-
  Parts of the proof, in the order in which they build: PiV, PiW, PiX.
-/
import Derived.Deep.CutRange
import Derived.OwnWalk
import Derived.Test.YtohjinbgbfggcaaA2
import Derived.Test.YtohjinbgbfggcaaA5
import Derived.Test.YtohjinbgbfggcaaA0
import Derived.Test.YtohjinbgbfggcaaA4
set_option linter.unusedVariables false
set_option linter.unusedSimpArgs false
/-
  worst and best; two.
-/
namespace Go.Proofs.Ytohjinbgbfggcaa
open Go.RowKit Go.Shelf
open Lim

set_option maxHeartbeats 400000 in
theorem worst_any (w : World) : Calls Try.prog 26 #[] w fun e w' => e = .returned (.agg #[.func (.func 47) #[] #[], .func (.func 46) #[] #[]]) ∧ Below w.heap.size w w' := by
  go_enter Try.func26, Try.ntmps26
  go_wp2
  exact bodyPost_ret (results_cell_row rfl _ _ w.heap.size _ _ (0, 0) _ (by rfl) (heap_alloc_newP w _) Try.underlying65 (by rfl) (by kernel_rfl)) rfl ⟨rfl, (Below.refl _ w).alloc (Nat.le_refl _) _⟩
set_option maxHeartbeats 400000 in
theorem best_any (w : World) : Calls Try.prog 21 #[] w fun e w' => e = .returned (.agg #[.func (.func 46) #[] #[], .func (.func 47) #[] #[]]) ∧ Below w.heap.size w w' := by
  go_enter Try.func21, Try.ntmps21
  go_wp2
  exact bodyPost_ret (results_cell_row rfl _ _ w.heap.size _ _ (0, 0) _ (by rfl) (heap_alloc_newP w _) Try.underlying65 (by rfl) (by kernel_rfl)) rfl ⟨rfl, (Below.refl _ w).alloc (Nat.le_refl _) _⟩
def twoS (n : Nat) (i j : Int) : Bool := inR i 0 (n - 1) && (inR j 0 (n - 1) && decide (i ≠ j))
set_option maxHeartbeats 400000 in
theorem two_any {n ac : Nat} {a : Option Addr} {gv t lo hi : Value} {i j : Int} {w : World} (hn : n ≤ 40) :
    Calls Try.prog 19 #[.agg #[.slice a n ac, gv, t, lo, hi], .int .i64 i, .int .i64 j] w fun e w' => e = .returned (.bool (twoS n i j)) ∧ Below w.heap.size w w' := by
  have HM : Hid (Below w.heap.size w (w.alloc (.cells #[.slice a n ac, gv, t, lo, hi] 30)) ∧ (w.alloc (.cells #[.slice a n ac, gv, t, lo, hi] 30)).heap[w.heap.size]? = some (.cells #[.slice a n ac, gv, t, lo, hi] 30 (0, 0))) := Lib.hid ⟨(Below.refl _ w).alloc (Nat.le_refl _) _, heap_alloc_newP w _⟩
  obtain ⟨m, hm⟩ : ∃ m : Int, m = (n : Int) - 1 := ⟨_, rfl⟩
  have HMm := Lib.hid hm
  have hw : IntKind.i64.wrap ((n : Int) - 1) = m := by rw [hm]; exact IntWalk.i64_in _ (by omega)
  obtain ⟨z1, hz1⟩ : ∃ z, z = inR i 0 m := ⟨_, rfl⟩
  obtain ⟨z2, hz2⟩ : ∃ z, z = inR j 0 m := ⟨_, rfl⟩
  obtain ⟨z3, hz3⟩ : ∃ z, z = decide (i ≠ j) := ⟨_, rfl⟩
  have HE : Hid (twoS n i j = (z1 && (z2 && z3))) := Lib.hid (by rw [twoS, hz1, hz2, hz3, hm])
  have H1 := Lib.hid hz1
  have H2 := Lib.hid hz2
  have h3 : (i != j) = z3 := by rw [hz3]; by_cases h : i = j <;> simp [h]
  clear hz1 hz2 hz3 hm
  go_enter Try.func19, Try.ntmps19
  go_upto_region 1 with (fail)
  obtain ⟨q, hq⟩ : ∃ q, q = w.heap.size := ⟨_, rfl⟩
  have HQ := Lib.hid hq.symm
  rw [← hq] at HM
  simp only [← hq]
  clear hq
  generalize w.alloc (.cells #[.slice a n ac, gv, t, lo, hi] 30) = w1 at HM ⊢
  obtain ⟨⟨k0, k1, k2, k3, k4⟩, -⟩ := five_cells HM.out.2
  have HW1 : Hid (Below w.heap.size w w1) := Lib.hid (by rw [HQ.out]; exact HM.out.1)
  clear k1 k2 k3 k4
  go_wp2_with fail
  refine (in_any _ _ _ _).mono ?_
  rintro e w' ⟨rfl, rfl⟩
  rw [← H1.out]
  cases z1 with
  | false =>
    go_wp2
    go_ret
    exact ⟨by rw [HE.out]; rfl, HW1.out⟩
  | true =>
    go_wp2_with fail
    refine (in_any _ _ _ _).mono ?_
    rintro e w' ⟨rfl, rfl⟩
    rw [← H2.out]
    cases z2 with
    | false =>
      go_wp2
      go_ret
      exact ⟨by rw [HE.out]; rfl, HW1.out⟩
    | true =>
      go_wp2
      go_ret
      exact ⟨by rw [HE.out]; rfl, HW1.out⟩
end Go.Proofs.Ytohjinbgbfggcaa
/-
  A profile at work: its memory; the contract of opened.
-/
namespace Go.Proofs.Ytohjinbgbfggcaa
open Go.RowKit Go.Shelf
open Lim

/-- the table of a profile at work -/
structure WkP (W : World) (b : Nat) (su : Nat → Nat → Bool) : Prop where
  s : ∀ i j, i < 40 → j < 40 → W.cell? ⟨b, 5 + i * 40 + j, none⟩ = some (.bool (su i j))
  f : ∀ k, W.frozen? ⟨b, k, none⟩ = false
theorem zeroWorkP : Try.zeroCells70 = (.slice none 0 0 :: .slice none 0 0 :: .int .i64 0 :: .int .i64 0 :: .int .i64 0 :: List.replicate 1600 (Value.bool false)).toArray := by kernel_rfl
def workCells (v0 v1 v2 v3 v4 : Value) : Array Value := (v0 :: v1 :: v2 :: v3 :: v4 :: List.replicate 1600 (Value.bool false)).toArray
theorem workChain (v0 v1 v2 v3 v4 : Value) : ((((Try.zeroCells70.setIfInBounds 0 v0).setIfInBounds 1 v1).setIfInBounds 2 v2).setIfInBounds 3 v3).setIfInBounds 4 v4 = workCells v0 v1 v2 v3 v4 := by
  rw [zeroWorkP]; simp only [List.setIfInBounds_toArray, List.set_cons_zero, List.set_cons_succ, workCells]
theorem work_newP {w : World} {p : Pf} {av gv : Value} :
    PfC (w.alloc (.cells (workCells av gv (.int .i64 p.tall) (.int .i64 p.lo) (.int .i64 p.hi)) 70)) w.heap.size p av gv ∧ WkP (w.alloc (.cells (workCells av gv (.int .i64 p.tall) (.int .i64 p.lo) (.int .i64 p.hi)) 70)) w.heap.size (fun _ _ => false) := by
  refine ⟨⟨?_, ?_, ?_, ?_, ?_⟩, fun i j hi hj => ?_, fun k => World.frozen?_alloc_new ..⟩
  · rw [World.cell?_alloc_new]; unfold workCells; rw [List.getElem?_toArray]; simp only [List.getElem?_cons_succ, List.getElem?_cons_zero]
  · rw [World.cell?_alloc_new]; unfold workCells; rw [List.getElem?_toArray]; simp only [List.getElem?_cons_succ, List.getElem?_cons_zero]
  · rw [World.cell?_alloc_new]; unfold workCells; rw [List.getElem?_toArray]; simp only [List.getElem?_cons_succ, List.getElem?_cons_zero]
  · rw [World.cell?_alloc_new]; unfold workCells; rw [List.getElem?_toArray]; simp only [List.getElem?_cons_succ, List.getElem?_cons_zero]
  · rw [World.cell?_alloc_new]; unfold workCells; rw [List.getElem?_toArray]; simp only [List.getElem?_cons_succ, List.getElem?_cons_zero]
  · rw [World.cell?_alloc_new, show 5 + i * 40 + j = (i * 40 + j) + 5 by omega]
    unfold workCells
    rw [List.getElem?_toArray]
    simp only [List.getElem?_cons_succ]
    exact List.getElem?_replicate_of_lt (show i * 40 + j < 1600 by omega)
theorem WkP.grow {W W' : World} {b : Nat} {su : Nat → Nat → Bool} (h : WkP W b su) (hlt : b < W.heap.size) (hb : Below W.heap.size W W') : WkP W' b su :=
  ⟨fun i j hi hj => hb.on (h.s i j hi hj), fun k => (hb.frozen (p := ⟨b, k, none⟩) hlt).trans (h.f k)⟩
theorem WkP.set {W : World} {b : Nat} {su : Nat → Nat → Bool} (h : WkP W b su) {i j : Nat} (hi : i < 40) (hj : j < 40) (v : Bool) :
    WkP (W.setCell ⟨b, 5 + i * 40 + j, none⟩ (.bool v)) b (fun x y => if x = i ∧ y = j then v else su x y) := by
  refine ⟨fun x y hx hy => ?_, fun k => ?_⟩
  · by_cases e : x = i ∧ y = j
    · rw [if_pos e, e.1, e.2]
      exact World.cell?_setCell_same' _ _ _ (by rw [h.s i j hi hj]; rfl)
    · rw [if_neg e, World.cell?_setCell_other W _ _ _ (fun e2 => e ?_)]
      · exact h.s x y hx hy
      · have := congrArg Addr.off e2
        simp only at this
        omega
  · rw [World.frozen?_setCell]; exact h.f k
theorem PfC.setFar {W : World} {b k : Nat} {p : Pf} {av gv v : Value} (h : PfC W b p av gv) (hk : 5 ≤ k) : PfC (W.setCell ⟨b, k, none⟩ v) b p av gv := by
  have off : ∀ (o : Nat) (u : Value), o < 5 → W.cell? ⟨b, o, none⟩ = some u → (W.setCell ⟨b, k, none⟩ v).cell? ⟨b, o, none⟩ = some u := fun o u h1 h => by
    rw [World.cell?_setCell_other W _ _ _ (fun e2 => by have := congrArg Addr.off e2; simp only at this; omega)]; exact h
  exact ⟨off _ _ (by omega) h.c0, off _ _ (by omega) h.c1, off _ _ (by omega) h.c2, off _ _ (by omega) h.c3, off _ _ (by omega) h.c4⟩
/-- how much of the table is filled behind i rows and j cells of the next -/
def suTo (p : Pf) (i j x y : Nat) : Bool := (decide (x ≠ y) && decide (max x y < i ∨ (max x y = i ∧ min x y < j))) && p.sure x y
def OpAns (w : World) (p : Pf) (av gv : Value) (e : Ending) (w' : World) : Prop :=
  Below w.heap.size w w' ∧ ((p.err ≠ 0 ∧ e = .returned (.tuple #[.pointer none, .int .i64 p.err])) ∨
    (p.err = 0 ∧ ∃ b, e = .returned (.tuple #[.pointer (some ⟨b, 0, none⟩), .int .i64 0]) ∧ w.heap.size ≤ b ∧ PfC w' b p av gv ∧ WkP w' b (suTo p p.n 0)))
theorem suTo_row (p : Pf) (k : Nat) : suTo p k k = suTo p (k + 1) 0 := by
  funext x y
  unfold suTo
  congr 1
  by_cases e : x = y
  · rw [decide_eq_false (show ¬ x ≠ y by omega)]; rfl
  · congr 1
    rw [decide_eq_decide]
    omega
theorem sure_comm (p : Pf) (i j : Nat) : p.sure i j = p.sure j i := by
  unfold Pf.sure Pf.sees
  rw [Nat.min_comm, Nat.max_comm]
theorem suTo_put (p : Pf) {k j : Nat} (h : j < k) : (fun x y => if x = j ∧ y = k then p.sure k j else if x = k ∧ y = j then p.sure k j else suTo p k j x y) = suTo p k (j + 1) := by
  funext x y
  by_cases h1 : x = j ∧ y = k
  · rw [if_pos h1, h1.1, h1.2, suTo, decide_eq_true (show j ≠ k by omega), decide_eq_true (show max j k < k ∨ max j k = k ∧ min j k < j + 1 by omega), sure_comm]; rfl
  · rw [if_neg h1]
    by_cases h2 : x = k ∧ y = j
    · rw [if_pos h2, h2.1, h2.2, suTo, decide_eq_true (show k ≠ j by omega), decide_eq_true (show max k j < k ∨ max k j = k ∧ min k j < j + 1 by omega)]; rfl
    · rw [if_neg h2]
      unfold suTo
      congr 1
      by_cases e : x = y
      · rw [decide_eq_false (show ¬ x ≠ y by omega)]; rfl
      · congr 1
        rw [decide_eq_decide]
        omega
theorem suTo_none (p : Pf) : (fun _ _ => false) = suTo p 0 0 := by
  funext x y
  unfold suTo
  rw [decide_eq_false (show ¬ (max x y < 0 ∨ max x y = 0 ∧ min x y < 0) by omega), Bool.and_false, Bool.false_and]
/-- a profile at work while its table is filled -/
structure OpM (w : World) (b n ac gc ab ao gb go : Nat) (p : Pf) (su : Nat → Nat → Bool) (W : World) : Prop where
  be : Below w.heap.size w W
  ge : w.heap.size ≤ b
  lt : b < W.heap.size
  lab : ab < w.heap.size
  lgb : gb < w.heap.size
  c : PfC W b p (.slice (some ⟨ab, ao, none⟩) n ac) (.slice (some ⟨gb, go, none⟩) n gc)
  l : PfL w.heap.size W p ab ao ac gb go gc
  k : WkP W b su
theorem OpM.grow {w : World} {b n ac gc ab ao gb go : Nat} {p : Pf} {su : Nat → Nat → Bool} {W W' : World} (H : OpM w b n ac gc ab ao gb go p su W) (hb : Below W.heap.size W W') : OpM w b n ac gc ab ao gb go p su W' :=
  ⟨H.be.trans (hb.mono H.be.size), H.ge, Nat.lt_of_lt_of_le H.lt hb.size, H.lab, H.lgb, H.c.grow hb, H.l.grow (hb.mono H.be.size), H.k.grow H.lt hb⟩
theorem OpM.put {w : World} {b n ac gc ab ao gb go : Nat} {p : Pf} {su : Nat → Nat → Bool} {W : World} (H : OpM w b n ac gc ab ao gb go p su W) {i j : Nat} (hi : i < 40) (hj : j < 40) (v : Bool) :
    OpM w b n ac gc ab ao gb go p (fun x y => if x = i ∧ y = j then v else su x y) (W.setCell ⟨b, 5 + i * 40 + j, none⟩ (.bool v)) :=
  have hb : Below w.heap.size W (W.setCell ⟨b, 5 + i * 40 + j, none⟩ (.bool v)) := (Below.refl w.heap.size W).setCell (p := ⟨b, 5 + i * 40 + j, none⟩) H.ge _
  ⟨H.be.trans hb, H.ge, Nat.lt_of_lt_of_le H.lt hb.size, H.lab, H.lgb, H.c.setFar (by omega), H.l.grow hb, H.k.set hi hj v⟩
set_option maxRecDepth 20000 in
set_option maxHeartbeats 2000000 in
theorem opened_any {B : Nat} {p : Pf} {av gv : Value} {w : World} (hB : B ≤ w.heap.size) (ha : RS B w av p.ats.length (ints p.ats)) (hg : RS B w gv p.gr.length (spans p.gr)) :
    Calls Try.prog 18 #[.agg #[av, gv, .int .i64 p.tall, .int .i64 p.lo, .int .i64 p.hi]] w (OpAns w p av gv) := by
  have HR := Lib.hid (And.intro hB (And.intro ha hg))
  obtain ⟨tl, htl⟩ : ∃ x, x = p.tall := ⟨_, rfl⟩
  obtain ⟨lo, hlo⟩ : ∃ x, x = p.lo := ⟨_, rfl⟩
  obtain ⟨hi, hhi⟩ : ∃ x, x = p.hi := ⟨_, rfl⟩
  have HCK : Hid (∀ W, Below w.heap.size w W → Calls Try.prog 24 #[.agg #[av, gv, .int .i64 tl, .int .i64 lo, .int .i64 hi]] W fun e w' => e = .returned (.int .i64 p.err) ∧ Below W.heap.size W w') := Lib.hid fun W hW => by
    rw [htl, hlo, hhi]
    exact Check_any (Nat.le_trans hB hW.size) (ha.below (hW.mono hB)) (hg.below (hW.mono hB))
  rw [← htl, ← hlo, ← hhi]
  have HT := Lib.hid (And.intro htl (And.intro hlo hhi))
  obtain ⟨a, ac, rfl, -⟩ := ha
  obtain ⟨g, gc, rfl, -⟩ := hg
  obtain ⟨er, her⟩ : ∃ x, x = p.err := ⟨_, rfl⟩
  rw [← her] at HCK
  have HER := Lib.hid her
  obtain ⟨m, hm⟩ : ∃ x, x = p.gr.length := ⟨_, rfl⟩
  obtain ⟨n, hn⟩ : ∃ x, x = p.ats.length := ⟨_, rfl⟩
  have HNM := Lib.hid (And.intro hn hm)
  have HA := Lib.hid (And.intro HR.out.2.1 HR.out.2.2)
  rw [← hn, ← hm] at HA HCK ⊢
  have HM : Hid (Below w.heap.size w (w.alloc (.cells #[.slice a n ac, .slice g m gc, .int .i64 tl, .int .i64 lo, .int .i64 hi] 30)) ∧ (w.alloc (.cells #[.slice a n ac, .slice g m gc, .int .i64 tl, .int .i64 lo, .int .i64 hi] 30)).heap[w.heap.size]? = some (.cells #[.slice a n ac, .slice g m gc, .int .i64 tl, .int .i64 lo, .int .i64 hi] 30 (0, 0))) := Lib.hid ⟨(Below.refl _ w).alloc (Nat.le_refl _) _, heap_alloc_newP w _⟩
  clear hB htl hlo hhi her hn hm
  go_enter Try.func18, Try.ntmps18
  go_upto_region 1 with (fail)
  obtain ⟨q, hq⟩ : ∃ q, q = w.heap.size := ⟨_, rfl⟩
  have HQ := Lib.hid hq.symm
  rw [← hq] at HM
  simp only [← hq]
  clear hq
  generalize w.alloc (.cells #[.slice a n ac, .slice g m gc, .int .i64 tl, .int .i64 lo, .int .i64 hi] 30) = w1 at HM ⊢
  obtain ⟨⟨k0, k1, k2, k3, k4⟩, -⟩ := five_cells HM.out.2
  have HW1 : Hid (Below w.heap.size w w1) := Lib.hid (by rw [HQ.out]; exact HM.out.1)
  go_wp2_with fail
  refine (HCK.out _ HW1.out).mono ?_
  rintro e w2 ⟨rfl, hb2⟩
  have hk0 := hb2.on k0
  have hk1 := hb2.on k1
  have hk2 := hb2.on k2
  have hk3 := hb2.on k3
  have hk4 := hb2.on k4
  clear k0 k1 k2 k3 k4
  have HB2 : Hid (Below w.heap.size w w2) := Lib.hid (HW1.out.trans (hb2.mono HW1.out.size))
  clear hb2
  by_cases he : er = 0
  · have d1 : (er != 0) = false := by simp [he]
    go_upto_region 5 with (fail)
    simp only [workChain]
    obtain ⟨wc, hwc⟩ : ∃ x, x = workCells (.slice a n ac) (.slice g m gc) (.int .i64 tl) (.int .i64 lo) (.int .i64 hi) := ⟨_, rfl⟩
    have HWN := Lib.hid (work_newP (w := w2) (p := p) (av := .slice a n ac) (gv := .slice g m gc))
    rw [← HT.out.1, ← HT.out.2.1, ← HT.out.2.2, ← hwc] at HWN
    simp only [← hwc]
    clear hwc
    have hbn : Below w2.heap.size w2 (w2.alloc (.cells wc 70)) := (Below.refl _ w2).alloc (Nat.le_refl _) _
    have hk := hbn.on hk0
    have hlt3 : w2.heap.size < (w2.alloc (.cells wc 70)).heap.size := by simp
    have HP : Hid p.Ok := Lib.hid (err_ok (by rw [← HER.out]; exact he))
    have hnm : m = n := by rw [HNM.out.1, HNM.out.2]; exact HP.out.gn
    subst hnm
    have HPN : Hid (m = p.n) := Lib.hid HNM.out.1
    have n40 : m ≤ 40 := by rw [HPN.out]; exact HP.out.n40
    obtain ⟨ra, rac, raeq, hra⟩ := HA.out.1
    cases raeq
    obtain ⟨rg, rgc, rgeq, hrg⟩ := HA.out.2
    cases rgeq
    obtain ⟨ab, ao, rfl, hab, hca⟩ := hra (ints_ne (by have h1 := HNM.out.1; have h2 : 2 ≤ p.ats.length := HP.out.n2; omega))
    obtain ⟨gb, go, rfl, hgb, hcg⟩ := hrg (by intro h; have := congrArg List.length h; rw [spans_length] at this; have h1 := HNM.out.2; have h2 : 2 ≤ p.ats.length := HP.out.n2; have h3 := HNM.out.1; simp only [List.length_nil] at this; omega)
    have HO : Hid (OpM w w2.heap.size m ac gc ab ao gb go p (suTo p 0 0) (w2.alloc (.cells wc 70))) := Lib.hid (by
      have hB := HR.out.1
      have hl : Below B w (w2.alloc (.cells wc 70)) := (HB2.out.trans (hbn.mono HB2.out.size)).mono hB
      refine ⟨HB2.out.trans (hbn.mono HB2.out.size), HB2.out.size, hlt3, by omega, by omega, HWN.out.1, ⟨by omega, by omega, fun i hi => ?_, fun i hi => ?_⟩, ?_⟩
      · rw [hl.cell (p := ⟨ab, ao + i, none⟩) hab]
        have := hca i _ (ints_at' p.ats i hi)
        rw [this, ← List.getD_eq_getElem?_getD]
        rfl
      · have eg : p.g i = p.gr[i] := by unfold Pf.g; rw [List.getD_eq_getElem?_getD, List.getElem?_eq_getElem hi]; rfl
        rw [eg, hl.cell (p := ⟨gb, go + i * 2, none⟩) hgb, hl.cell (p := ⟨gb, go + i * 2 + 1, none⟩) hgb]
        exact ⟨hcg (i * 2) _ (spans_lo p.gr i hi), hcg (i * 2 + 1) _ (spans_hi p.gr i hi)⟩
      · rw [← suTo_none]; exact HWN.out.2)
    clear hab hca hgb hcg hra hrg hbn hlt3 hk0 hk1 hk2 hk3 hk4 HWN
    obtain ⟨b, hb⟩ : ∃ x, x = w2.heap.size := ⟨_, rfl⟩
    have HSZ := Lib.hid hb
    simp only [← hb] at HO hk ⊢
    clear hb
    generalize w2.alloc (.cells wc 70) = w3 at HO hk ⊢
    go_wp2_with fail
    go_loopw [19] (fun i wr => ∃ k : Nat, k ≤ m ∧ i = .int .i64 k ∧ Hid (OpM w b m ac gc ab ao gb go p (suTo p k 0) wr)) (fun i _ => m - (intOf i).toNat)
    case atStart => exact ⟨0, Nat.zero_le _, rfl, HO⟩
    case round =>
      obtain ⟨k, hkm, rfl, hO⟩ := hrel
      by_cases hlt : k < m
      · clear HO hk
        have k40 : k < 40 := by omega
        go_wp2_with fail
        obtain ⟨wo, rfl⟩ : ∃ wo : World, wo = wr := ⟨_, rfl⟩
        go_loopw [23] (fun i wr => ∃ j : Nat, j ≤ k ∧ i = .int .i64 j ∧ Hid (OpM w b m ac gc ab ao gb go p (suTo p k j) wr)) (fun i _ => k - (intOf i).toNat)
        case atStart => exact ⟨0, Nat.zero_le _, rfl, hO⟩
        case round =>
          obtain ⟨j, hjk, rfl, hO2⟩ := hrel
          clear hO
          by_cases hlt2 : j < k
          · have j40 : j < 40 := by omega
            obtain ⟨v, hv⟩ : ∃ v, v = p.sure k j := ⟨_, rfl⟩
            have HS : Hid (∀ W, OpM w b m ac gc ab ao gb go p (suTo p k j) W → Calls Try.prog 20 #[.pointer (some ⟨b, 0, none⟩), .int .i64 k, .int .i64 j, .agg #[.func (.func 47) #[] #[], .func (.func 46) #[] #[]]] W fun e w' => e = .returned (.bool v) ∧ Below W.heap.size W w') := Lib.hid fun W h => by
              rw [hv]
              exact sees_worst HP.out HPN.out (by omega) (by omega) h.c (h.l.mono h.be.size)
            have HVV := Lib.hid hv
            clear hv
            go_wp2_with fail
            have hO3 := Lib.hid (hO2.out.grow (Below.refl _ wr).drew)
            have hC : True := trivial
            have ki40 : (k : Int) < 40 := by omega
            have ji40 : (j : Int) < 40 := by omega
            clear hO2
            refine Lim.regC' (fun _ => True) [] #[false, false, false, false, false, false, false, false, false, false, false, false, false] (by kernel_rfl) rfl ?_
            refine Lim.stepR 0 (fun _ => trivial) rfl (by kernel_rfl) (fun _ _ _ _ h => h) hC rfl ?_; apply Exists.intro; refine ⟨?_, ?_⟩
            · rintro w -; go_simp; try with_reducible rfl
            simp only [Act.put, List.setIfInBounds_toArray, List.set_cons_succ, List.set_cons_zero]
            refine Lim.stepR 1 (fun _ => trivial) rfl (by kernel_rfl) (fun _ _ _ _ h => h) hC rfl ?_; apply Exists.intro; refine ⟨?_, ?_⟩
            · rintro w -; go_simp; try with_reducible rfl
            simp only [Act.put, List.setIfInBounds_toArray, List.set_cons_succ, List.set_cons_zero]
            refine Lim.stepR 2 (fun _ => trivial) rfl (by kernel_rfl) (fun _ _ _ _ h => h) hC rfl ?_; apply Exists.intro; refine ⟨?_, ?_⟩
            · rintro w -; go_simp; try with_reducible rfl
            simp only [Act.put, List.setIfInBounds_toArray, List.set_cons_succ, List.set_cons_zero]
            refine Lim.stepR 3 (fun _ => trivial) rfl (by kernel_rfl) (fun _ _ _ _ h => h) hC rfl ?_; apply Exists.intro; refine ⟨?_, ?_⟩
            · rintro w -; go_simp; try with_reducible rfl
            simp only [Act.put, List.setIfInBounds_toArray, List.set_cons_succ, List.set_cons_zero]
            refine Lim.stepR 4 (fun _ => trivial) rfl (by kernel_rfl) (fun _ _ _ _ h => h) hC rfl ?_; apply Exists.intro; refine ⟨?_, ?_⟩
            · rintro w -; go_simp; try with_reducible rfl
            simp only [Act.put, List.setIfInBounds_toArray, List.set_cons_succ, List.set_cons_zero]
            refine Lim.stepR 5 (fun _ => trivial) rfl (by kernel_rfl) (fun _ _ _ _ h => h) hC rfl ?_; apply Exists.intro; refine ⟨?_, ?_⟩
            · rintro w -; go_simp; try with_reducible rfl
            simp only [Act.put, List.setIfInBounds_toArray, List.set_cons_succ, List.set_cons_zero]
            refine Lim.stepR 8 (fun _ => trivial) rfl (by kernel_rfl) (fun _ _ _ _ h => h) hC rfl ?_; apply Exists.intro; refine ⟨?_, ?_⟩
            · rintro w -; go_simp; try with_reducible rfl
            simp only [Act.put, List.setIfInBounds_toArray, List.set_cons_succ, List.set_cons_zero]
            refine Lim.stepR 9 (fun _ => trivial) rfl (by kernel_rfl) (fun _ _ _ _ h => h) hC rfl ?_; apply Exists.intro; refine ⟨?_, ?_⟩
            · rintro w -; go_simp; try with_reducible rfl
            simp only [Act.put, List.setIfInBounds_toArray, List.set_cons_succ, List.set_cons_zero]
            refine Lim.stepR 10 (fun _ => trivial) rfl (by kernel_rfl) (fun _ _ _ _ h => h) hC rfl ?_; apply Exists.intro; refine ⟨?_, ?_⟩
            · rintro w -; go_simp; try with_reducible rfl
            simp only [Act.put, List.setIfInBounds_toArray, List.set_cons_succ, List.set_cons_zero]
            refine Lim.stepE 6 (fun _ => trivial) rfl (by kernel_rfl) rfl (fun K hK => ?_)   -- E call
            go_simp
            refine ⟨rfl, (callsIn_wide.2 (worst_any _)).mono ?_⟩
            rintro e w5 ⟨rfl, hb5⟩
            have hO5 := Lib.hid (hO3.out.grow hb5)
            clear hb5 hO3
            refine hK _ _ trivial ?_
            simp only [Act.put, List.setIfInBounds_toArray, List.set_cons_succ, List.set_cons_zero]
            refine Lim.stepE 7 (fun _ => trivial) rfl (by kernel_rfl) rfl (fun K hK => ?_)   -- E call
            go_simp
            refine ⟨rfl, (callsIn_wide.2 (HS.out _ hO5.out)).mono ?_⟩
            rintro e w6 ⟨rfl, hb6⟩
            have hO6 := Lib.hid (hO5.out.grow hb6)
            clear hb6 hO5
            have s1 := hO6.out.k.s k j k40 j40
            have s2 := hO6.out.k.f (5 + k * 40 + j)
            refine hK _ _ trivial ?_
            simp only [Act.put, List.setIfInBounds_toArray, List.set_cons_succ, List.set_cons_zero]
            refine Lim.stepR 11 (fun _ => trivial) rfl (by kernel_rfl) (fun _ _ _ _ h => h) hC rfl ?_; apply Exists.intro; refine ⟨?_, ?_⟩
            · rintro w -; go_simp; try with_reducible rfl
            simp only [Act.put, List.setIfInBounds_toArray, List.set_cons_succ, List.set_cons_zero]
            refine Lim.stepE 12 (fun _ => trivial) rfl (by kernel_rfl) rfl (fun K hK => ?_)   -- E store
            go_simp
            refine hK _ _ trivial ?_
            refine Lim.stepD (by kernel_rfl) ?_
            have hO7 := Lib.hid (hO6.out.put k40 j40 v)
            have hne : ¬ (k = j) := by omega
            clear hC s1 s2 hO6 HS
            generalize w6.setCell ⟨b, 5 + k * 40 + j, none⟩ (.bool v) = w7 at hO7 ⊢
            go_wp2_with fail
            have hO7d := Lib.hid (hO7.out.grow (Below.refl _ w7).drew)
            clear hO7
            have hC : w7.drew.cell? ⟨b, 5 + k * 40 + j, none⟩ = some (.bool v) := by simpa using hO7d.out.k.s k j k40 j40
            have s1 := hO7d.out.k.s j k j40 k40
            have s2 := hO7d.out.k.f (5 + j * 40 + k)
            generalize hW0 : w7.drew = w9 at hO7d hC s1 s2
            refine Lim.regC' (fun W => W.cell? ⟨b, 5 + k * 40 + j, none⟩ = some (.bool v)) [] #[false, false, false, false, false, false, false, false, false, false, false, false, false, false, false, false] (by kernel_rfl) rfl ?_
            rw [hW0]; clear hW0
            refine Lim.stepR 0 (fun _ => trivial) rfl (by kernel_rfl) (fun _ _ _ _ h => h) hC rfl ?_; apply Exists.intro; refine ⟨?_, ?_⟩
            · rintro w r1; go_simp; try with_reducible rfl
            simp only [Act.put, List.setIfInBounds_toArray, List.set_cons_succ, List.set_cons_zero]
            refine Lim.stepR 1 (fun _ => trivial) rfl (by kernel_rfl) (fun _ _ _ _ h => h) hC rfl ?_; apply Exists.intro; refine ⟨?_, ?_⟩
            · rintro w r1; go_simp; try with_reducible rfl
            simp only [Act.put, List.setIfInBounds_toArray, List.set_cons_succ, List.set_cons_zero]
            refine Lim.stepR 2 (fun _ => trivial) rfl (by kernel_rfl) (fun _ _ _ _ h => h) hC rfl ?_; apply Exists.intro; refine ⟨?_, ?_⟩
            · rintro w r1; go_simp; try with_reducible rfl
            simp only [Act.put, List.setIfInBounds_toArray, List.set_cons_succ, List.set_cons_zero]
            refine Lim.stepR 3 (fun _ => trivial) rfl (by kernel_rfl) (fun _ _ _ _ h => h) hC rfl ?_; apply Exists.intro; refine ⟨?_, ?_⟩
            · rintro w r1; go_simp; try with_reducible rfl
            simp only [Act.put, List.setIfInBounds_toArray, List.set_cons_succ, List.set_cons_zero]
            refine Lim.stepR 4 (fun _ => trivial) rfl (by kernel_rfl) (fun _ _ _ _ h => h) hC rfl ?_; apply Exists.intro; refine ⟨?_, ?_⟩
            · rintro w r1; go_simp; try with_reducible rfl
            simp only [Act.put, List.setIfInBounds_toArray, List.set_cons_succ, List.set_cons_zero]
            refine Lim.stepR 5 (fun _ => trivial) rfl (by kernel_rfl) (fun _ _ _ _ h => h) hC rfl ?_; apply Exists.intro; refine ⟨?_, ?_⟩
            · rintro w r1; go_simp; try with_reducible rfl
            simp only [Act.put, List.setIfInBounds_toArray, List.set_cons_succ, List.set_cons_zero]
            refine Lim.stepR 6 (fun _ => trivial) rfl (by kernel_rfl) (fun _ _ _ _ h => h) hC rfl ?_; apply Exists.intro; refine ⟨?_, ?_⟩
            · rintro w r1; go_simp; try with_reducible rfl
            simp only [Act.put, List.setIfInBounds_toArray, List.set_cons_succ, List.set_cons_zero]
            refine Lim.stepR 7 (fun _ => trivial) rfl (by kernel_rfl) (fun _ _ _ _ h => h) hC rfl ?_; apply Exists.intro; refine ⟨?_, ?_⟩
            · rintro w r1; go_simp; try with_reducible rfl
            simp only [Act.put, List.setIfInBounds_toArray, List.set_cons_succ, List.set_cons_zero]
            refine Lim.stepR 8 (fun _ => trivial) rfl (by kernel_rfl) (fun _ _ _ _ h => h) hC rfl ?_; apply Exists.intro; refine ⟨?_, ?_⟩
            · rintro w r1; go_simp; try with_reducible rfl
            simp only [Act.put, List.setIfInBounds_toArray, List.set_cons_succ, List.set_cons_zero]
            refine Lim.stepR 9 (fun _ => trivial) rfl (by kernel_rfl) (fun _ _ _ _ h => h) hC rfl ?_; apply Exists.intro; refine ⟨?_, ?_⟩
            · rintro w r1; go_simp; try with_reducible rfl
            simp only [Act.put, List.setIfInBounds_toArray, List.set_cons_succ, List.set_cons_zero]
            refine Lim.stepR 10 (fun _ => trivial) rfl (by kernel_rfl) (fun _ _ _ _ h => h) hC rfl ?_; apply Exists.intro; refine ⟨?_, ?_⟩
            · rintro w r1; go_simp; try with_reducible rfl
            simp only [Act.put, List.setIfInBounds_toArray, List.set_cons_succ, List.set_cons_zero]
            refine Lim.stepR 11 (fun _ => trivial) rfl (by kernel_rfl) (fun _ _ _ _ h => h) hC rfl ?_; apply Exists.intro; refine ⟨?_, ?_⟩
            · rintro w r1; go_simp; try with_reducible rfl
            simp only [Act.put, List.setIfInBounds_toArray, List.set_cons_succ, List.set_cons_zero]
            refine Lim.stepR 12 (fun _ => trivial) rfl (by kernel_rfl) (fun _ _ _ _ h => h) hC rfl ?_; apply Exists.intro; refine ⟨?_, ?_⟩
            · rintro w r1; go_simp; try with_reducible rfl
            simp only [Act.put, List.setIfInBounds_toArray, List.set_cons_succ, List.set_cons_zero]
            refine Lim.stepR 13 (fun _ => trivial) rfl (by kernel_rfl) (fun _ _ _ _ h => h) hC rfl ?_; apply Exists.intro; refine ⟨?_, ?_⟩
            · rintro w r1; go_simp; try with_reducible rfl
            simp only [Act.put, List.setIfInBounds_toArray, List.set_cons_succ, List.set_cons_zero]
            refine Lim.stepR 14 (fun _ => trivial) rfl (by kernel_rfl) (fun _ _ _ _ h => h) hC rfl ?_; apply Exists.intro; refine ⟨?_, ?_⟩
            · rintro w r1; go_simp; try with_reducible rfl
            simp only [Act.put, List.setIfInBounds_toArray, List.set_cons_succ, List.set_cons_zero]
            refine Lim.stepE 15 (fun _ => trivial) rfl (by kernel_rfl) rfl (fun K hK => ?_)   -- E store
            go_simp
            have hO8 := Lib.hid (hO7d.out.put j40 k40 v)
            refine hK _ _ (by simpa [hne] using hO8.out.k.s k j k40 j40) ?_
            refine Lim.stepD (by kernel_rfl) ?_
            clear hC s1 s2 hO7d
            generalize w9.setCell ⟨b, 5 + j * 40 + k, none⟩ (.bool v) = w8 at hO8 ⊢
            go_wp2
            go_roundw
            case rel => exact ⟨j + 1, by omega, by go_num, Lib.hid (by have h := hO8.out; rw [HVV.out, suTo_put p hlt2] at h; exact h)⟩
            case measure => simp [intOf]; omega
          · obtain rfl : j = k := by omega
            go_wp2
            go_roundw
            case rel => exact ⟨j + 1, by omega, by go_num, by rw [← suTo_row]; exact hO2⟩
            case measure => simp [intOf]; omega
      · obtain rfl : k = m := by omega
        go_wp2
        go_ret2
        exact ⟨hO.out.be, .inr ⟨by rw [← HER.out]; exact he, b, rfl, hO.out.ge, hO.out.c, by rw [← HPN.out]; exact hO.out.k⟩⟩
  · have d1 : (er != 0) = true := by simp [he]
    go_wp2
    go_ret2
    exact ⟨HB2.out, .inl ⟨by rw [← HER.out]; exact he, by rw [← HER.out]; rfl⟩⟩
end Go.Proofs.Ytohjinbgbfggcaa
/-
  Whether two places can, and surely do, see each other: the contract of Sees.
-/
namespace Go.Proofs.Ytohjinbgbfggcaa
open Go.RowKit Go.Shelf
open Lim

theorem pf_lists {B : Nat} {p : Pf} {av gv : Value} {w : World} (hp : p.Ok) (ha : RS B w av p.ats.length (ints p.ats)) (hg : RS B w gv p.gr.length (spans p.gr)) :
    ∃ ab ao ac gb go gc, av = .slice (some ⟨ab, ao, none⟩) p.n ac ∧ gv = .slice (some ⟨gb, go, none⟩) p.n gc ∧ PfL B w p ab ao ac gb go gc := by
  have h2 : 2 ≤ p.ats.length := hp.n2
  have h3 : p.gr.length = p.ats.length := hp.gn
  obtain ⟨a, ac, rfl, hra⟩ := ha
  obtain ⟨g, gc, rfl, hrg⟩ := hg
  obtain ⟨ab, ao, rfl, hab, hca⟩ := hra (ints_ne (by omega))
  obtain ⟨gb, go, rfl, hgb, hcg⟩ := hrg (spans_ne (by omega))
  refine ⟨ab, ao, ac, gb, go, gc, rfl, by rw [h3]; rfl, ⟨hab, hgb, fun i hi => ?_, fun i hi => ?_⟩⟩
  · have := hca i _ (ints_at' p.ats i hi)
    rw [this, ← List.getD_eq_getElem?_getD]
    rfl
  · have eg : p.g i = p.gr[i] := by unfold Pf.g; rw [List.getD_eq_getElem?_getD, List.getElem?_eq_getElem hi]; rfl
    rw [eg]
    exact ⟨hcg (i * 2) _ (spans_lo p.gr i hi), hcg (i * 2 + 1) _ (spans_hi p.gr i hi)⟩
theorem suTo_at {p : Pf} {i j : Nat} (hi : i < p.n) (hj : j < p.n) (hij : i ≠ j) : suTo p p.n 0 i j = p.sure i j := by
  rw [suTo, decide_eq_true hij, decide_eq_true (show max i j < p.n ∨ max i j = p.n ∧ min i j < 0 by omega)]; rfl
theorem twoS_nat {n : Nat} {i j : Int} (h : twoS n i j = true) : ∃ x y : Nat, i = x ∧ j = y ∧ x < n ∧ y < n ∧ x ≠ y := by
  unfold twoS at h
  simp only [Bool.and_eq_true, inR_iff, decide_eq_true_eq] at h
  exact ⟨i.toNat, j.toNat, by omega, by omega, by omega, by omega, by omega⟩
/-- what Sees answers -/
def seesAns (p : Pf) (i j : Int) : Value :=
  if p.err ≠ 0 then .tuple #[.bool false, .bool false, .int .i64 p.err]
  else if twoS p.n i j = true then .tuple #[.bool (p.sees true false i.toNat j.toNat), .bool (p.sure i.toNat j.toNat), .int .i64 0]
  else .tuple #[.bool false, .bool false, .int .i64 2]
set_option maxRecDepth 20000 in
set_option maxHeartbeats 2000000 in
theorem Sees_any {B : Nat} {p : Pf} {av gv : Value} {i j : Int} {w : World} (hB : B ≤ w.heap.size) (ha : RS B w av p.ats.length (ints p.ats)) (hg : RS B w gv p.gr.length (spans p.gr)) :
    Calls Try.prog 7 #[.agg #[av, gv, .int .i64 p.tall, .int .i64 p.lo, .int .i64 p.hi], .int .i64 i, .int .i64 j] w fun e w' => e = .returned (seesAns p i j) ∧ Below w.heap.size w w' := by
  have HR := Lib.hid (And.intro hB (And.intro ha hg))
  obtain ⟨tl, htl⟩ : ∃ x, x = p.tall := ⟨_, rfl⟩
  obtain ⟨lo, hlo⟩ : ∃ x, x = p.lo := ⟨_, rfl⟩
  obtain ⟨hi, hhi⟩ : ∃ x, x = p.hi := ⟨_, rfl⟩
  have HOP : Hid (∀ W, Below w.heap.size w W → Calls Try.prog 18 #[.agg #[av, gv, .int .i64 tl, .int .i64 lo, .int .i64 hi]] W (OpAns W p av gv)) := Lib.hid fun W hW => by
    rw [htl, hlo, hhi]
    exact opened_any (Nat.le_trans hB hW.size) (ha.below (hW.mono hB)) (hg.below (hW.mono hB))
  rw [← htl, ← hlo, ← hhi]
  have HT := Lib.hid (And.intro htl (And.intro hlo hhi))
  have HM : Hid (Below w.heap.size w (w.alloc (.cells #[av, gv, .int .i64 tl, .int .i64 lo, .int .i64 hi] 30)) ∧ (w.alloc (.cells #[av, gv, .int .i64 tl, .int .i64 lo, .int .i64 hi] 30)).heap[w.heap.size]? = some (.cells #[av, gv, .int .i64 tl, .int .i64 lo, .int .i64 hi] 30 (0, 0))) := Lib.hid ⟨(Below.refl _ w).alloc (Nat.le_refl _) _, heap_alloc_newP w _⟩
  clear hB htl hlo hhi ha hg
  obtain ⟨sa, hsa⟩ : ∃ x, x = seesAns p i j := ⟨_, rfl⟩
  have HSA := Lib.hid hsa
  rw [← hsa]
  clear hsa
  go_enter Try.func7, Try.ntmps7
  go_upto_region 1 with (fail)
  obtain ⟨q, hq⟩ : ∃ q, q = w.heap.size := ⟨_, rfl⟩
  have HQ := Lib.hid hq.symm
  rw [← hq] at HM
  simp only [← hq]
  clear hq
  generalize w.alloc (.cells #[av, gv, .int .i64 tl, .int .i64 lo, .int .i64 hi] 30) = w1 at HM ⊢
  obtain ⟨⟨k0, k1, k2, k3, k4⟩, -⟩ := five_cells HM.out.2
  have HW1 : Hid (Below w.heap.size w w1) := Lib.hid (by rw [HQ.out]; exact HM.out.1)
  go_wp2_with fail
  refine (HOP.out _ HW1.out).mono ?_
  rintro e w2 ⟨hb2, hans⟩
  have hk0 := hb2.on k0
  have hk1 := hb2.on k1
  have hk2 := hb2.on k2
  have hk3 := hb2.on k3
  have hk4 := hb2.on k4
  clear k0 k1 k2 k3 k4
  have HB2 : Hid (Below w.heap.size w w2) := Lib.hid (HW1.out.trans (hb2.mono HW1.out.size))
  clear hb2
  rcases hans with ⟨hne, rfl⟩ | ⟨he, b, rfl, hge, hc, hk⟩
  · have HE : Hid (sa = .tuple #[.bool false, .bool false, .int .i64 p.err]) := Lib.hid (by rw [HSA.out, seesAns, if_pos hne])
    obtain ⟨er, her⟩ : ∃ x, x = p.err := ⟨_, rfl⟩
    rw [← her] at hne HE ⊢
    clear her
    have d1 : (er != 0) = true := by simp [hne]
    clear hne
    go_wp2
    go_ret3
    exact ⟨by rw [HE.out]; rfl, HB2.out⟩
  · have HP : Hid p.Ok := Lib.hid (err_ok he)
    obtain ⟨ab, ao, ac, gb, go, gc, rfl, rfl, hl⟩ := pf_lists HP.out HR.out.2.1 HR.out.2.2
    have HE : Hid (sa = if twoS p.n i j = true then .tuple #[.bool (p.sees true false i.toNat j.toNat), .bool (p.sure i.toNat j.toNat), .int .i64 0] else .tuple #[.bool false, .bool false, .int .i64 2]) := Lib.hid (by rw [HSA.out, seesAns, if_neg (by simp [he])])
    have HW := Lib.hid (And.intro hc (And.intro hk hl))
    obtain ⟨n, hn⟩ : ∃ x, x = p.n := ⟨_, rfl⟩
    rw [← hn] at HE HW hk0 hk1 ⊢
    have HN : Hid (n = p.n) := Lib.hid hn
    have n40 : n ≤ 40 := by rw [hn]; exact HP.out.n40
    clear hn hc hk hl he hge
    go_wp2_with fail
    refine (two_any n40).mono ?_
    rintro e w3 ⟨rfl, hb3⟩
    have HB3 : Hid (Below w.heap.size w w3) := Lib.hid (HB2.out.trans (hb3.mono HB2.out.size))
    cases h2 : twoS n i j with
    | false =>
      rw [h2] at HE
      clear hb3 hk0 hk1 hk2 hk3 hk4
      go_wp2
      go_ret3
      exact ⟨by rw [HE.out]; rfl, HB3.out⟩
    | true =>
      obtain ⟨x, y, rfl, rfl, hx, hy, hxy⟩ := twoS_nat h2
      rw [h2, if_pos rfl] at HE
      simp only [Int.toNat_natCast] at HE
      have HXY : Hid (x < n ∧ y < n ∧ x ≠ y) := Lib.hid ⟨hx, hy, hxy⟩
      obtain ⟨hc, hk, hl⟩ := HW.out
      have h32 : Below w2.heap.size w2 w3 := hb3
      have HO : Hid (PfC w3 b p (.slice (some ⟨ab, ao, none⟩) n ac) (.slice (some ⟨gb, go, none⟩) n gc) ∧ PfL w.heap.size w3 p ab ao ac gb go gc) := Lib.hid ⟨hc.grow h32, (hl.mono HR.out.1).grow (HB3.out)⟩
      obtain ⟨v1, hv1⟩ : ∃ v, v = p.sees true false x y := ⟨_, rfl⟩
      obtain ⟨v2, hv2⟩ : ∃ v, v = p.sure x y := ⟨_, rfl⟩
      rw [← hv1, ← hv2] at HE
      have s1 : w3.cell? ⟨b, 5 + x * 40 + y, none⟩ = some (.bool v2) := by
        have h := h32.on (hk.s x y (by omega) (by omega))
        rw [HN.out, suTo_at (by have := HN.out; omega) (by have := HN.out; omega) hxy, ← hv2] at h
        exact h
      have HS : Hid (∀ W, Below w3.heap.size w3 W → Calls Try.prog 20 #[.pointer (some ⟨b, 0, none⟩), .int .i64 x, .int .i64 y, .agg #[.func (.func 46) #[] #[], .func (.func 47) #[] #[]]] W fun e w' => e = .returned (.bool v1) ∧ Below W.heap.size W w') := Lib.hid fun W h => by
        rw [hv1]
        have hz := HB3.out.size
        exact sees_best HP.out HN.out hx hy (HO.out.1.grow h) ((HO.out.2.grow (h.mono hz)).mono (Nat.le_trans hz h.size))
      have x40 : (x : Int) < 40 := by omega
      have y40 : (y : Int) < 40 := by omega
      clear hv1 hv2 hb3 h32 hk0 hk1 hk2 hk3 hk4 hc hk hl hx hy hxy h2 HW
      go_wp2_with fail
      have s2 : w3.drew.cell? ⟨b, 5 + x * 40 + y, none⟩ = some (.bool v2) := s1
      have HB4 : Hid (Below w3.heap.size w3 w3.drew) := Lib.hid (Below.refl _ w3).drew
      clear s1
      generalize hW0 : w3.drew = w4 at s2 HB4
      have hC := s2
      clear s2
      refine Lim.regC' (fun W => W.cell? ⟨b, 5 + x * 40 + y, none⟩ = some (.bool v2)) [] #[false, false, false, false, false, false, false, false, false, false, false, false, false, false, false, false] (by kernel_rfl) rfl ?_
      rw [hW0]; clear hW0
      refine Lim.stepR 0 (fun _ => trivial) rfl (by kernel_rfl) (fun _ _ _ _ h => h) hC rfl ?_; apply Exists.intro; refine ⟨?_, ?_⟩
      · rintro w r1; go_simp; try with_reducible rfl
      simp only [Act.put, List.setIfInBounds_toArray, List.set_cons_succ, List.set_cons_zero]
      refine Lim.stepR 1 (fun _ => trivial) rfl (by kernel_rfl) (fun _ _ _ _ h => h) hC rfl ?_; apply Exists.intro; refine ⟨?_, ?_⟩
      · rintro w r1; go_simp; try with_reducible rfl
      simp only [Act.put, List.setIfInBounds_toArray, List.set_cons_succ, List.set_cons_zero]
      refine Lim.stepR 2 (fun _ => trivial) rfl (by kernel_rfl) (fun _ _ _ _ h => h) hC rfl ?_; apply Exists.intro; refine ⟨?_, ?_⟩
      · rintro w r1; go_simp; try with_reducible rfl
      simp only [Act.put, List.setIfInBounds_toArray, List.set_cons_succ, List.set_cons_zero]
      refine Lim.stepR 5 (fun _ => trivial) rfl (by kernel_rfl) (fun _ _ _ _ h => h) hC rfl ?_; apply Exists.intro; refine ⟨?_, ?_⟩
      · rintro w r1; go_simp; try with_reducible rfl
      simp only [Act.put, List.setIfInBounds_toArray, List.set_cons_succ, List.set_cons_zero]
      refine Lim.stepR 6 (fun _ => trivial) rfl (by kernel_rfl) (fun _ _ _ _ h => h) hC rfl ?_; apply Exists.intro; refine ⟨?_, ?_⟩
      · rintro w r1; go_simp; try with_reducible rfl
      simp only [Act.put, List.setIfInBounds_toArray, List.set_cons_succ, List.set_cons_zero]
      refine Lim.stepR 7 (fun _ => trivial) rfl (by kernel_rfl) (fun _ _ _ _ h => h) hC rfl ?_; apply Exists.intro; refine ⟨?_, ?_⟩
      · rintro w r1; go_simp; try with_reducible rfl
      simp only [Act.put, List.setIfInBounds_toArray, List.set_cons_succ, List.set_cons_zero]
      refine Lim.stepR 8 (fun _ => trivial) rfl (by kernel_rfl) (fun _ _ _ _ h => h) hC rfl ?_; apply Exists.intro; refine ⟨?_, ?_⟩
      · rintro w r1; go_simp; try with_reducible rfl
      simp only [Act.put, List.setIfInBounds_toArray, List.set_cons_succ, List.set_cons_zero]
      refine Lim.stepR 9 (fun _ => trivial) rfl (by kernel_rfl) (fun _ _ _ _ h => h) hC rfl ?_; apply Exists.intro; refine ⟨?_, ?_⟩
      · rintro w r1; go_simp; try with_reducible rfl
      simp only [Act.put, List.setIfInBounds_toArray, List.set_cons_succ, List.set_cons_zero]
      refine Lim.stepR 10 (fun _ => trivial) rfl (by kernel_rfl) (fun _ _ _ _ h => h) hC rfl ?_; apply Exists.intro; refine ⟨?_, ?_⟩
      · rintro w r1; go_simp; try with_reducible rfl
      simp only [Act.put, List.setIfInBounds_toArray, List.set_cons_succ, List.set_cons_zero]
      refine Lim.stepR 11 (fun _ => trivial) rfl (by kernel_rfl) (fun _ _ _ _ h => h) hC rfl ?_; apply Exists.intro; refine ⟨?_, ?_⟩
      · rintro w r1; go_simp; try with_reducible rfl
      simp only [Act.put, List.setIfInBounds_toArray, List.set_cons_succ, List.set_cons_zero]
      refine Lim.stepR 12 (fun _ => trivial) rfl (by kernel_rfl) (fun _ _ _ _ h => h) hC rfl ?_; apply Exists.intro; refine ⟨?_, ?_⟩
      · rintro w r1; go_simp; try with_reducible rfl
      simp only [Act.put, List.setIfInBounds_toArray, List.set_cons_succ, List.set_cons_zero]
      refine Lim.stepE 3 (fun _ => trivial) rfl (by kernel_rfl) rfl (fun K hK => ?_)   -- E call
      go_simp
      refine ⟨rfl, (callsIn_wide.2 (best_any _)).mono ?_⟩
      rintro e w5 ⟨rfl, hb5⟩
      have HB5 : Hid (Below w3.heap.size w3 w5) := Lib.hid (HB4.out.trans (hb5.mono HB4.out.size))
      have hC2 := hb5.on hC
      clear hb5 hC
      refine hK _ _ hC2 ?_
      simp only [Act.put, List.setIfInBounds_toArray, List.set_cons_succ, List.set_cons_zero]
      refine Lim.stepE 4 (fun _ => trivial) rfl (by kernel_rfl) rfl (fun K hK => ?_)   -- E call
      go_simp
      refine ⟨rfl, (callsIn_wide.2 (HS.out _ HB5.out)).mono ?_⟩
      rintro e w6 ⟨rfl, hb6⟩
      have HB6 : Hid (Below w3.heap.size w3 w6) := Lib.hid (HB5.out.trans (hb6.mono HB5.out.size))
      have hC := hb6.on hC2
      clear hb6 hC2
      refine hK _ _ hC ?_
      simp only [Act.put, List.setIfInBounds_toArray, List.set_cons_succ, List.set_cons_zero]
      refine Lim.stepR 13 (fun _ => trivial) rfl (by kernel_rfl) (fun _ _ _ _ h => h) hC rfl ?_; apply Exists.intro; refine ⟨?_, ?_⟩
      · rintro w r1; go_simp; try with_reducible rfl
      simp only [Act.put, List.setIfInBounds_toArray, List.set_cons_succ, List.set_cons_zero]
      refine Lim.stepR 14 (fun _ => trivial) rfl (by kernel_rfl) (fun _ _ _ _ h => h) hC rfl ?_; apply Exists.intro; refine ⟨?_, ?_⟩
      · rintro w r1; go_simp; try with_reducible rfl
      simp only [Act.put, List.setIfInBounds_toArray, List.set_cons_succ, List.set_cons_zero]
      refine Lim.stepR 15 (fun _ => trivial) rfl (by kernel_rfl) (fun _ _ _ _ h => h) hC rfl ?_; apply Exists.intro; refine ⟨?_, ?_⟩
      · rintro w r1; go_simp; try with_reducible rfl
      simp only [Act.put, List.setIfInBounds_toArray, List.set_cons_succ, List.set_cons_zero]
      refine Lim.stepD (by kernel_rfl) ?_
      clear hC HS
      go_wp2
      go_ret3
      exact ⟨by rw [HE.out]; rfl, HB3.out.trans (HB6.out.mono HB3.out.size)⟩
end Go.Proofs.Ytohjinbgbfggcaa
