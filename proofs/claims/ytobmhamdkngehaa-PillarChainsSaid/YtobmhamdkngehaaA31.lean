/-
  Parts of the proof, in the order in which they build: LwS.
-/
import Derived.Test.YtobmhamdkngehaaA26
import Derived.Test.YtobmhamdkngehaaA30
import Derived.Test.YtobmhamdkngehaaB28
import Derived.Test.YtobmhamdkngehaaA29
import Derived.Test.YtobmhamdkngehaaA4
set_option linter.unusedVariables false
set_option linter.unusedSimpArgs false
namespace Go.Proofs.Ytobmhamdkngehaa
open Go.RowKit Go.Shelf
open Lim

/-- what lies there behind the cloning -/
structure GS5 (w : World) (q qo qm n1 n2 : Nat) (p : Pf) (tl lo hi : Int) (av gv ao go am gm : Value) (W : World) : Prop where
  be : Below w.heap.size w W
  c : Fv W q av gv tl lo hi
  o : Fv W qo ao go tl lo hi
  m : Fv W qm am gm tl lo hi
  oa : RS W.heap.size W ao n1 (ints p.ats)
  og : RS W.heap.size W go n2 (spans p.gr)
  ma : RS W.heap.size W am n1 (ints p.ats)
  mg : RS W.heap.size W gm n2 (spans p.gr)
theorem GS5.grow {w : World} {q qo qm n1 n2 : Nat} {p : Pf} {tl lo hi : Int} {av gv ao go am gm : Value} {W W' : World} (h : GS5 w q qo qm n1 n2 p tl lo hi av gv ao go am gm W) (hb : Below W.heap.size W W') : GS5 w q qo qm n1 n2 p tl lo hi av gv ao go am gm W' :=
  ⟨h.be.trans (hb.mono h.be.size), h.c.grow hb, h.o.grow hb, h.m.grow hb, RS.on h.oa hb, RS.on h.og hb, RS.on h.ma hb, RS.on h.mg hb⟩
theorem real_form (p : Pf) (xs : List Int) (bd i j : Int) : ∃ (b : Bool) (e : Int), realAns p xs bd i j = .tuple #[.bool b, .int .i64 e] := by
  unfold realAns
  split
  · exact ⟨_, _, rfl⟩
  · split
    · split
      · exact ⟨_, _, rfl⟩
      · exact ⟨_, _, rfl⟩
    · exact ⟨_, _, rfl⟩
theorem sees_form (p : Pf) (i j : Int) : ∃ (b c : Bool) (e : Int), seesAns p i j = .tuple #[.bool b, .bool c, .int .i64 e] := by
  unfold seesAns
  split
  · exact ⟨_, _, _, rfl⟩
  · split
    · exact ⟨_, _, _, rfl⟩
    · exact ⟨_, _, _, rfl⟩
theorem tall_form (p : Pf) (i j : Int) : ∃ (t e : Int), tallAns p i j = .tuple #[.int .i64 t, .int .i64 e] := by
  unfold tallAns
  split
  · exact ⟨_, _, rfl⟩
  · split
    · split
      · exact ⟨_, _, rfl⟩
      · exact ⟨_, _, rfl⟩
    · exact ⟨_, _, rfl⟩
/-- what holds while the statement clones what it was given, in whatever order memory is laid -/
structure SiP (w : World) (q n1 n2 : Nat) (p : Pf) (tl lo hi : Int) (av gv : Value) (m : Nat) (xs : List Int) (done : Nat → Bool) (x39 x41 x43 x11 x13 x12 : Value) (W : World) : Prop where
  c : (Below w.heap.size w W ∧ w.heap.size ≤ q ∧ q < W.heap.size) ∧ Fv W q av gv tl lo hi
  d1 : done 1 = true → Pq W q n1 n2 p tl lo hi x39
  d3 : done 3 = true → Lq W q m xs x41
  d5 : done 5 = true → Pq W q n1 n2 p tl lo hi x43
  d6 : done 6 = true → Bx5 W q 27 x11
  d7 : done 7 = true → Bx5 W q 35 x13
  d8 : done 8 = true → (done 1 = true ∧ done 6 = true) ∧ Fu5 W q 27 x11 x39
  d9 : done 9 = true → done 3 = true ∧ x12 = x41
  d10 : done 10 = true → (done 5 = true ∧ done 7 = true) ∧ Fu5 W q 35 x13 x43
theorem SiP.grow {w : World} {q n1 n2 : Nat} {p : Pf} {tl lo hi : Int} {av gv : Value} {m : Nat} {xs : List Int} {done : Nat → Bool} {x39 x41 x43 x11 x13 x12 : Value} {W W' : World} (H : SiP w q n1 n2 p tl lo hi av gv m xs done x39 x41 x43 x11 x13 x12 W) (hb : Below W.heap.size W W') : SiP w q n1 n2 p tl lo hi av gv m xs done x39 x41 x43 x11 x13 x12 W' :=
  ⟨⟨⟨H.c.1.1.trans (hb.mono H.c.1.1.size), H.c.1.2.1, Nat.lt_of_lt_of_le H.c.1.2.2 hb.size⟩, H.c.2.grow hb⟩, fun h => (H.d1 h).grow hb, fun h => (H.d3 h).grow hb, fun h => (H.d5 h).grow hb, fun h => (H.d6 h).grow hb, fun h => (H.d7 h).grow hb, fun h => ⟨(H.d8 h).1, (H.d8 h).2.grow hb⟩, H.d9, fun h => ⟨(H.d10 h).1, (H.d10 h).2.grow hb⟩⟩
set_option maxRecDepth 20000 in
set_option maxHeartbeats 8000000 in
theorem sightsl_any {B : Nat} {p : Pf} {av gv v : Value} {xs : List Int} {bd i j : Int} {w : World} (hB : B ≤ w.heap.size) (ha : RS B w av p.ats.length (ints p.ats)) (hg : RS B w gv p.gr.length (spans p.gr)) (hv : RS B w v xs.length (ints xs)) (hcap : ∀ a c, v = .slice a xs.length c → xs.length ≤ c) :
    Calls Try.prog 10 #[.agg #[av, gv, .int .i64 p.tall, .int .i64 p.lo, .int .i64 p.hi], v, .int .i64 bd, .int .i64 i, .int .i64 j] w fun e w' => e = .returned (.bool true) ∧ Below w.heap.size w w' := by
  have HR := Lib.hid (And.intro hB (And.intro ha (And.intro hg (And.intro hv hcap))))
  obtain ⟨a, ac, rfl, -⟩ := ha
  obtain ⟨g, gc, rfl, -⟩ := hg
  obtain ⟨va, vc, rfl, -⟩ := hv
  obtain ⟨n1, hn1⟩ : ∃ x, x = p.ats.length := ⟨_, rfl⟩
  obtain ⟨n2, hn2⟩ : ∃ x, x = p.gr.length := ⟨_, rfl⟩
  obtain ⟨m, hm⟩ : ∃ x, x = xs.length := ⟨_, rfl⟩
  obtain ⟨tl, htl⟩ : ∃ x, x = p.tall := ⟨_, rfl⟩
  obtain ⟨lo, hlo⟩ : ∃ x, x = p.lo := ⟨_, rfl⟩
  obtain ⟨hi, hhi⟩ : ∃ x, x = p.hi := ⟨_, rfl⟩
  have HRA : Hid (RS B w (.slice a n1 ac) p.ats.length (ints p.ats) ∧ RS B w (.slice g n2 gc) p.gr.length (spans p.gr) ∧ RS B w (.slice va m vc) xs.length (ints xs)) := Lib.hid ⟨by rw [hn1]; exact HR.out.2.1, by rw [hn2]; exact HR.out.2.2.1, by rw [hm]; exact HR.out.2.2.2.1⟩
  rw [← hn1, ← hn2, ← hm, ← htl, ← hlo, ← hhi]
  have HN := Lib.hid (And.intro hn1 (And.intro hn2 (And.intro hm (And.intro htl (And.intro hlo hhi)))))
  have HMB : Hid (Below w.heap.size w (w.alloc (.cells #[.slice a n1 ac, .slice g n2 gc, .int .i64 tl, .int .i64 lo, .int .i64 hi] 27))) := Lib.hid ((Below.refl _ w).alloc (Nat.le_refl _) _)
  have HM : Hid ((w.alloc (.cells #[.slice a n1 ac, .slice g n2 gc, .int .i64 tl, .int .i64 lo, .int .i64 hi] 27)).cell? ⟨w.heap.size, 0, none⟩ = some (.slice a n1 ac) ∧ (w.alloc (.cells #[.slice a n1 ac, .slice g n2 gc, .int .i64 tl, .int .i64 lo, .int .i64 hi] 27)).cell? ⟨w.heap.size, 1, none⟩ = some (.slice g n2 gc) ∧ (w.alloc (.cells #[.slice a n1 ac, .slice g n2 gc, .int .i64 tl, .int .i64 lo, .int .i64 hi] 27)).cell? ⟨w.heap.size, 2, none⟩ = some (.int .i64 tl) ∧ (w.alloc (.cells #[.slice a n1 ac, .slice g n2 gc, .int .i64 tl, .int .i64 lo, .int .i64 hi] 27)).cell? ⟨w.heap.size, 3, none⟩ = some (.int .i64 lo) ∧ (w.alloc (.cells #[.slice a n1 ac, .slice g n2 gc, .int .i64 tl, .int .i64 lo, .int .i64 hi] 27)).cell? ⟨w.heap.size, 4, none⟩ = some (.int .i64 hi)) := Lib.hid ⟨by simp [go_sem], by simp [go_sem], by simp [go_sem], by simp [go_sem], by simp [go_sem]⟩
  clear hn1 hn2 hm htl hlo hhi hB hcap
  go_enter Try.func10, Try.ntmps10
  go_upto_region 1 with (fail)
  obtain ⟨q, hq⟩ : ∃ q, q = w.heap.size := ⟨_, rfl⟩
  rw [← hq] at HM
  simp only [← hq]
  have HQ0 := Lib.hid hq
  clear hq
  generalize w.alloc (.cells #[.slice a n1 ac, .slice g n2 gc, .int .i64 tl, .int .i64 lo, .int .i64 hi] 27) = w1 at HM HMB ⊢
  obtain ⟨k0, k1, k2, k3, k4⟩ := HM.out
  have HQ2 : Hid (w.heap.size ≤ q ∧ q < w1.heap.size) := Lib.hid ⟨by rw [HQ0.out]; exact Nat.le_refl _, World.block_lt_of_cell? _ _ k0⟩
  clear HM
  by_cases h1 : 45 < n1
  · have d1 : decide (45 < n1) = true := decide_eq_true h1
    have d1' : decide ((45 : Int) < (n1 : Int)) = true := decide_eq_true (by omega)
    go_wp2_with fail
    refine (awake_any _).mono ?_
    rintro e w2 ⟨rfl, hb2⟩
    have HB2 : Hid (Below w.heap.size w w2) := Lib.hid (HMB.out.trans (hb2.mono HMB.out.size))
    clear hb2
    go_wp2
    go_ret
    exact ⟨rfl, HB2.out⟩
  · have d1 : decide (45 < n1) = false := decide_eq_false h1
    have d1' : decide ((45 : Int) < (n1 : Int)) = false := decide_eq_false (by omega)
    by_cases h2 : 45 < n2
    · have d2 : decide (45 < n2) = true := decide_eq_true h2
      have d2' : decide ((45 : Int) < (n2 : Int)) = true := decide_eq_true (by omega)
      go_wp2_with fail
      refine (awake_any _).mono ?_
      rintro e w2 ⟨rfl, hb2⟩
      have HB2 : Hid (Below w.heap.size w w2) := Lib.hid (HMB.out.trans (hb2.mono HMB.out.size))
      clear hb2
      go_wp2
      go_ret
      exact ⟨rfl, HB2.out⟩
    · have d2 : decide (45 < n2) = false := decide_eq_false h2
      have d2' : decide ((45 : Int) < (n2 : Int)) = false := decide_eq_false (by omega)
      by_cases h3 : 50 < m
      · have d3 : decide (50 < m) = true := decide_eq_true h3
        have d3' : decide ((50 : Int) < (m : Int)) = true := decide_eq_true (by omega)
        go_wp2_with fail
        refine (awake_any _).mono ?_
        rintro e w2 ⟨rfl, hb2⟩
        have HB2 : Hid (Below w.heap.size w w2) := Lib.hid (HMB.out.trans (hb2.mono HMB.out.size))
        clear hb2
        go_wp2
        go_ret
        exact ⟨rfl, HB2.out⟩
      · have d3 : decide (50 < m) = false := decide_eq_false h3
        have d3' : decide ((50 : Int) < (m : Int)) = false := decide_eq_false (by omega)
        have HL : Hid (p.ats.length ≤ 1000 ∧ p.gr.length ≤ 1000 ∧ xs.length ≤ 50) := Lib.hid (by have := HN.out; omega)
        clear h1 h2 h3
        have HPR : Hid (∀ W, Below w.heap.size w W → Calls Try.prog 19 #[.agg #[.slice a n1 ac, .slice g n2 gc, .int .i64 tl, .int .i64 lo, .int .i64 hi]] W fun e w' => ∃ av' gv', e = .returned (.agg #[av', gv', .int .i64 tl, .int .i64 lo, .int .i64 hi]) ∧ w'.ownsRow W.heap.size 3 1 av' n1 (ints p.ats) ∧ w'.ownsRow W.heap.size 25 2 gv' n2 (spans p.gr) ∧ Below W.heap.size W w') := Lib.hid fun W hW => by
          have h := profile_any (tl := tl) (lo := lo) (hi := hi) (Nat.le_trans HR.out.1 hW.size) (HRA.out.1.below (hW.mono HR.out.1)) (HRA.out.2.1.below (hW.mono HR.out.1)) HL.out.1 HL.out.2.1
          rw [← HN.out.1, ← HN.out.2.1] at h
          exact h
        have HPC : Hid (∀ W, Below w.heap.size w W → Calls Try.prog 15 #[.agg #[.slice a n1 ac, .slice g n2 gc, .int .i64 tl, .int .i64 lo, .int .i64 hi]] W fun e w' => ∃ av' gv', e = .returned (.agg #[av', gv', .int .i64 tl, .int .i64 lo, .int .i64 hi]) ∧ w'.ownsRow W.heap.size 3 1 av' n1 (ints p.ats) ∧ w'.ownsRow W.heap.size 25 2 gv' n2 (spans p.gr) ∧ Below W.heap.size W w') := Lib.hid fun W hW => by
          have h := pclone_any (tl := tl) (lo := lo) (hi := hi) (Nat.le_trans HR.out.1 hW.size) (HRA.out.1.below (hW.mono HR.out.1)) (HRA.out.2.1.below (hW.mono HR.out.1)) HL.out.1 HL.out.2.1
          rw [← HN.out.1, ← HN.out.2.1] at h
          exact h
        have HKC0 : Hid (∀ W, Below w.heap.size w W → Calls Try.prog 16 #[.slice va m vc] W fun e w' => ∃ v, e = .returned v ∧ w'.ownsRow W.heap.size 3 1 v m (ints xs) ∧ Below W.heap.size W w') := Lib.hid fun W hW => by
          have h := kclone_ints (w := W) (by have := HL.out.2.2; omega) (HRA.out.2.2.below (hW.mono HR.out.1))
          rw [← HN.out.2.2.1] at h
          exact h
        have HX1 : Hid (∀ W ao go, RS W.heap.size W ao n1 (ints p.ats) → RS W.heap.size W go n2 (spans p.gr) → Calls Try.prog 46 #[.agg #[ao, go, .int .i64 tl, .int .i64 lo, .int .i64 hi]] W fun e w' => e = .returned (.int .i64 p.err) ∧ Below W.heap.size W w') := Lib.hid fun W ao go h1 h2 => by
          rw [HN.out.1] at h1
          rw [HN.out.2.1] at h2
          rw [HN.out.2.2.2.1, HN.out.2.2.2.2.1, HN.out.2.2.2.2.2]
          exact Check_any (Nat.le_refl _) h1 h2
        have HX2 : Hid (∀ W ao go, RS W.heap.size W ao n1 (ints p.ats) → RS W.heap.size W go n2 (spans p.gr) → Calls Try.prog 47 #[.agg #[ao, go, .int .i64 tl, .int .i64 lo, .int .i64 hi]] W fun e w' => e = .returned (.int .i64 p.err) ∧ Below W.heap.size W w') := Lib.hid fun W ao go h1 h2 => by
          rw [HN.out.1] at h1
          rw [HN.out.2.1] at h2
          rw [HN.out.2.2.2.1, HN.out.2.2.2.2.1, HN.out.2.2.2.2.2]
          exact rCheck_any (Nat.le_refl _) h1 h2
        have HX3 : Hid (∀ W ao go vm, RS W.heap.size W ao n1 (ints p.ats) → RS W.heap.size W go n2 (spans p.gr) → RS W.heap.size W vm m (ints xs) → Calls Try.prog 48 #[.agg #[ao, go, .int .i64 tl, .int .i64 lo, .int .i64 hi], vm, .int .i64 bd, .int .i64 i, .int .i64 j] W fun e w' => e = .returned (realAns p xs bd i j) ∧ Below W.heap.size W w') := Lib.hid fun W ao go vm h1 h2 h3 => by
          rw [HN.out.1] at h1
          rw [HN.out.2.1] at h2
          rw [HN.out.2.2.2.1, HN.out.2.2.2.2.1, HN.out.2.2.2.2.2]
          exact Real_any (Nat.le_refl _) h1 h2 (HN.out.2.2.1 ▸ h3) (by have := HL.out.2.2; omega)
        have HX4 : Hid (∀ W ao go, RS W.heap.size W ao n1 (ints p.ats) → RS W.heap.size W go n2 (spans p.gr) → Below w.heap.size w W → Calls Try.prog 49 #[.agg #[ao, go, .int .i64 tl, .int .i64 lo, .int .i64 hi], .slice va m vc, .int .i64 bd, .int .i64 i, .int .i64 j] W fun e w' => e = .returned (realAns p xs bd i j) ∧ Below W.heap.size W w') := Lib.hid fun W ao go h1 h2 h3 => by
          rw [HN.out.1] at h1
          rw [HN.out.2.1] at h2
          rw [HN.out.2.2.2.1, HN.out.2.2.2.2.1, HN.out.2.2.2.2.2]
          exact rReal_any (Nat.le_refl _) h1 h2 ((HRA.out.2.2.below (h3.mono HR.out.1)).mono (Nat.le_trans HR.out.1 h3.size)) (by have := HL.out.2.2; omega)
        have HX5 : Hid (∀ W ao go, RS W.heap.size W ao n1 (ints p.ats) → RS W.heap.size W go n2 (spans p.gr) → Calls Try.prog 35 #[.agg #[ao, go, .int .i64 tl, .int .i64 lo, .int .i64 hi], .int .i64 i, .int .i64 j] W fun e w' => e = .returned (seesAns p i j) ∧ Below W.heap.size W w') := Lib.hid fun W ao go h1 h2 => by
          rw [HN.out.1] at h1
          rw [HN.out.2.1] at h2
          rw [HN.out.2.2.2.1, HN.out.2.2.2.2.1, HN.out.2.2.2.2.2]
          exact Sees_any (Nat.le_refl _) h1 h2
        have HX6 : Hid (∀ W ao go, RS W.heap.size W ao n1 (ints p.ats) → RS W.heap.size W go n2 (spans p.gr) → Calls Try.prog 50 #[.agg #[ao, go, .int .i64 tl, .int .i64 lo, .int .i64 hi], .int .i64 i, .int .i64 j] W fun e w' => e = .returned (seesAns p i j) ∧ Below W.heap.size W w') := Lib.hid fun W ao go h1 h2 => by
          rw [HN.out.1] at h1
          rw [HN.out.2.1] at h2
          rw [HN.out.2.2.2.1, HN.out.2.2.2.2.1, HN.out.2.2.2.2.2]
          exact rSees_any (Nat.le_refl _) h1 h2
        have HX7 : Hid (∀ W ao go, RS W.heap.size W ao n1 (ints p.ats) → RS W.heap.size W go n2 (spans p.gr) → Calls Try.prog 34 #[.agg #[ao, go, .int .i64 tl, .int .i64 lo, .int .i64 hi], .int .i64 i, .int .i64 j] W fun e w' => e = .returned (tallAns p i j) ∧ Below W.heap.size W w') := Lib.hid fun W ao go h1 h2 => by
          rw [HN.out.1] at h1
          rw [HN.out.2.1] at h2
          rw [HN.out.2.2.2.1, HN.out.2.2.2.2.1, HN.out.2.2.2.2.2]
          exact Tall_any (Nat.le_refl _) h1 h2
        have HX8 : Hid (∀ W ao go, RS W.heap.size W ao n1 (ints p.ats) → RS W.heap.size W go n2 (spans p.gr) → Calls Try.prog 51 #[.agg #[ao, go, .int .i64 tl, .int .i64 lo, .int .i64 hi], .int .i64 i, .int .i64 j] W fun e w' => e = .returned (tallAns p i j) ∧ Below W.heap.size W w') := Lib.hid fun W ao go h1 h2 => by
          rw [HN.out.1] at h1
          rw [HN.out.2.1] at h2
          rw [HN.out.2.2.2.1, HN.out.2.2.2.2.1, HN.out.2.2.2.2.2]
          exact rTall_any (Nat.le_refl _) h1 h2
        have HSA : Hid (∀ W ao go, Below w.heap.size w W → RS W.heap.size W ao n1 (ints p.ats) → RS W.heap.size W go n2 (spans p.gr) → Calls Try.prog 21 #[.agg #[ao, go, .int .i64 tl, .int .i64 lo, .int .i64 hi], .agg #[.slice a n1 ac, .slice g n2 gc, .int .i64 tl, .int .i64 lo, .int .i64 hi]] W fun e w' => e = .returned (.bool true) ∧ Below W.heap.size W w') := Lib.hid fun W ao go hW h1 h2 => by
          rw [HN.out.1] at h1
          rw [HN.out.2.1] at h2
          exact psame_any ⟨Nat.le_refl _, Nat.le_trans HR.out.1 hW.size⟩ h1 h2 (HRA.out.1.below (hW.mono HR.out.1)) (HRA.out.2.1.below (hW.mono HR.out.1)) HL.out.1 HL.out.2.1
        have HEQ : Hid (∀ W vm, Below w.heap.size w W → RS W.heap.size W vm m (ints xs) → Calls Try.prog 20 #[vm, .slice va m vc] W fun e w' => e = .returned (.bool true) ∧ Below W.heap.size W w') := Lib.hid fun W vm hW h1 => by
          rw [HN.out.2.2.1] at h1
          have := equal_ints (by have := HL.out.2.2; omega) h1 (HRA.out.2.2.below (hW.mono HR.out.1))
          rw [decide_eq_true (rfl : xs = xs)] at this
          exact this
        have hC : (fun W => W.cell? ⟨q, 0, none⟩ = some (.slice a n1 ac) ∧ W.cell? ⟨q, 1, none⟩ = some (.slice g n2 gc) ∧ W.cell? ⟨q, 2, none⟩ = some (.int .i64 tl) ∧ W.cell? ⟨q, 3, none⟩ = some (.int .i64 lo) ∧ W.cell? ⟨q, 4, none⟩ = some (.int .i64 hi)) w1.drew := ⟨by simpa using k0, by simpa using k1, by simpa using k2, by simpa using k3, by simpa using k4⟩
        have HP0 : Hid (SiP w q n1 n2 p tl lo hi (.slice a n1 ac) (.slice g n2 gc) m xs (fun _ => false) undef undef undef undef undef undef w1.drew) := Lib.hid ⟨⟨⟨HMB.out.drew, HQ2.out.1, by simpa using HQ2.out.2⟩, ⟨hC.1, hC.2.1, hC.2.2.1, hC.2.2.2.1, hC.2.2.2.2⟩⟩, fun h => (by cases h), fun h => (by cases h), fun h => (by cases h), fun h => (by cases h), fun h => (by cases h), fun h => (by cases h), fun h => (by cases h), fun h => (by cases h)⟩
        go_wp2_with fail
        clear k0 k1 k2 k3 k4
        refine Lim.regC' (fun W => W.cell? ⟨q, 0, none⟩ = some (.slice a n1 ac) ∧ W.cell? ⟨q, 1, none⟩ = some (.slice g n2 gc) ∧ W.cell? ⟨q, 2, none⟩ = some (.int .i64 tl) ∧ W.cell? ⟨q, 3, none⟩ = some (.int .i64 lo) ∧ W.cell? ⟨q, 4, none⟩ = some (.int .i64 hi)) [] #[false, false, false, false, false, false, false, false, false, false, false] (by kernel_rfl) rfl ?_
        refine Lim.stepR 0 (fun _ => trivial) rfl (by kernel_rfl) (fun _ _ _ _ h => h) hC rfl ?_; apply Exists.intro; refine ⟨?_, ?_⟩
        · rintro w ⟨r0, r1, r2, r3, r4⟩; go_simp; try with_reducible rfl
        simp only [Act.put, List.setIfInBounds_toArray, List.set_cons_succ, List.set_cons_zero]
        refine Lim.stepR 2 (fun _ => trivial) rfl (by kernel_rfl) (fun _ _ _ _ h => h) hC rfl ?_; apply Exists.intro; refine ⟨?_, ?_⟩
        · rintro w ⟨r0, r1, r2, r3, r4⟩; go_simp; try with_reducible rfl
        simp only [Act.put, List.setIfInBounds_toArray, List.set_cons_succ, List.set_cons_zero]
        refine Lim.stepR 4 (fun _ => trivial) rfl (by kernel_rfl) (fun _ _ _ _ h => h) hC rfl ?_; apply Exists.intro; refine ⟨?_, ?_⟩
        · rintro w ⟨r0, r1, r2, r3, r4⟩; go_simp; try with_reducible rfl
        simp only [Act.put, List.setIfInBounds_toArray, List.set_cons_succ, List.set_cons_zero]
        clear hC
        refine Lim.parC [1, 3, 5, 6, 7, 8, 9, 10] (fun done act W => ∃ x39 x41 x43 x11 x13 x12, act = { tmps := #[Value.agg #[Value.slice a n1 ac, Value.slice g n2 gc, Value.int IntKind.i64 tl, Value.int IntKind.i64 lo, Value.int IntKind.i64 hi], Value.slice va m vc, Value.int IntKind.i64 bd, Value.int IntKind.i64 i, Value.int IntKind.i64 j, Value.pointer (some ⟨q, 0, none⟩), undef, undef, undef, undef, Value.bool false, x11, x12, x13, undef, undef, undef, undef, undef, undef, undef, undef, Value.pointer (some ⟨q, 0, none⟩), Value.slice a n1 ac, Value.int IntKind.i64 n1, Value.bool false, Value.bool false, Value.pointer (some ⟨q, 1, none⟩), Value.slice g n2 gc, Value.int IntKind.i64 n2, Value.bool false, Value.bool false, Value.bool false, Value.slice va m vc, Value.int IntKind.i64 m, Value.bool false, Value.bool false, undef, Value.agg #[Value.slice a n1 ac, Value.slice g n2 gc, Value.int IntKind.i64 tl, Value.int IntKind.i64 lo, Value.int IntKind.i64 hi], x39, Value.slice va m vc, x41, Value.agg #[Value.slice a n1 ac, Value.slice g n2 gc, Value.int IntKind.i64 tl, Value.int IntKind.i64 lo, Value.int IntKind.i64 hi], x43, undef, undef, undef, undef, undef, undef, undef, undef, undef, undef, undef, undef, undef, undef, undef, undef, undef, undef, undef, undef, undef, undef, undef, undef, undef, undef, undef, undef, undef, undef, undef, undef, undef, undef, undef, undef, undef, undef, undef, undef, undef, undef, undef, undef, undef, undef, undef, undef, undef, undef, undef, undef, undef, undef, undef, undef, undef, undef, undef, undef, undef, undef, undef, undef, undef, undef, undef, undef, undef, undef, undef, undef, undef, undef, undef, undef, undef, undef, undef, undef, undef, undef, undef, undef, undef, undef, undef, undef, undef, undef, undef, undef, undef, undef, undef], defers := [] } ∧ SiP w q n1 n2 p tl lo hi (.slice a n1 ac) (.slice g n2 gc) m xs done x39 x41 x43 x11 x13 x12 W) (fun _ => trivial) (by kernel_rfl) rfl rfl ?hC ?step ?fin ⟨_, _, _, _, _, _, rfl, HP0.out⟩
        case hC => rintro done act W ⟨_, _, _, _, _, _, _, H⟩; exact ⟨H.c.2.c0, H.c.2.c1, H.c.2.c2, H.c.2.c3, H.c.2.c4⟩
        case step =>
          intro ii o hi ho done act W hd hdep hS K hK
          obtain ⟨x39, x41, x43, x11, x13, x12, rfl, H⟩ := hS
          simp only [List.mem_cons, List.not_mem_nil, or_false] at hi
          rcases hi with rfl | rfl | rfl | rfl | rfl | rfl | rfl | rfl
          · cases ho
            have HC := HPC.out W H.c.1.1
            clear hdep
            go_simp
            refine ⟨rfl, (callsIn_wide.2 HC).mono ?_⟩
            rintro e W' ⟨av', gv', rfl, o1, o2, hb⟩
            refine hK _ _ ?_
            have hsz := Nat.le_of_lt H.c.1.2.2
            replace H := H.grow hb
            obtain ⟨aa, cc, rfl, -⟩ := RS.of_owns o1
            obtain ⟨ab, cb, rfl, -⟩ := RS.of_owns o2
            exact ⟨_, _, _, _, _, _, rfl, ⟨H.c, fun _ => ⟨aa, cc, ab, cb, rfl, owns_mono o1 hsz, owns_mono o2 hsz⟩, fun h => H.d3 (by simpa using h), fun h => H.d5 (by simpa using h), fun h => H.d6 (by simpa using h), fun h => H.d7 (by simpa using h), fun h => (by have h := (H.d8 (by simpa using h)).1.1; rw [hd] at h; cases h), fun h => H.d9 (by simpa using h), fun h => H.d10 (by simpa using h)⟩⟩
          · cases ho
            have HC := HKC0.out W H.c.1.1
            clear hdep
            go_simp
            refine ⟨rfl, (callsIn_wide.2 HC).mono ?_⟩
            rintro e W' ⟨v, rfl, o1, hb⟩
            refine hK _ _ ?_
            have hsz := Nat.le_of_lt H.c.1.2.2
            replace H := H.grow hb
            obtain ⟨aa, cc, rfl, -⟩ := RS.of_owns o1
            exact ⟨_, _, _, _, _, _, rfl, ⟨H.c, fun h => H.d1 (by simpa using h), fun _ => ⟨aa, cc, rfl, owns_mono o1 hsz⟩, fun h => H.d5 (by simpa using h), fun h => H.d6 (by simpa using h), fun h => H.d7 (by simpa using h), fun h => H.d8 (by simpa using h), fun h => (by have h := (H.d9 (by simpa using h)).1; rw [hd] at h; cases h), fun h => H.d10 (by simpa using h)⟩⟩
          · cases ho
            have HC := HPR.out W H.c.1.1
            clear hdep
            go_simp
            refine ⟨rfl, (callsIn_wide.2 HC).mono ?_⟩
            rintro e W' ⟨av', gv', rfl, o1, o2, hb⟩
            refine hK _ _ ?_
            have hsz := Nat.le_of_lt H.c.1.2.2
            replace H := H.grow hb
            obtain ⟨aa, cc, rfl, -⟩ := RS.of_owns o1
            obtain ⟨ab, cb, rfl, -⟩ := RS.of_owns o2
            exact ⟨_, _, _, _, _, _, rfl, ⟨H.c, fun h => H.d1 (by simpa using h), fun h => H.d3 (by simpa using h), fun _ => ⟨aa, cc, ab, cb, rfl, owns_mono o1 hsz, owns_mono o2 hsz⟩, fun h => H.d6 (by simpa using h), fun h => H.d7 (by simpa using h), fun h => H.d8 (by simpa using h), fun h => H.d9 (by simpa using h), fun h => (by have h := (H.d10 (by simpa using h)).1.1; rw [hd] at h; cases h)⟩⟩
          · cases ho
            clear hdep
            go_simp
            refine hK _ _ ?_
            have hlt := H.c.1.2.2
            have hn := heap_alloc_newP W (.cells #[.slice none 0 0, .slice none 0 0, .int .i64 0, .int .i64 0, .int .i64 0] 27)
            have hb : Below W.heap.size W (W.alloc (.cells #[.slice none 0 0, .slice none 0 0, .int .i64 0, .int .i64 0, .int .i64 0] 27)) := (Below.refl _ W).alloc (Nat.le_refl _) _
            replace H := H.grow hb
            exact ⟨_, _, _, _, _, _, rfl, ⟨H.c, fun h => H.d1 (by simpa using h), fun h => H.d3 (by simpa using h), fun h => H.d5 (by simpa using h), fun _ => ⟨_, _, _, _, _, _, rfl, hlt, hn⟩, fun h => H.d7 (by simpa using h), fun h => (by have h := (H.d8 (by simpa using h)).1.2; rw [hd] at h; cases h), fun h => H.d9 (by simpa using h), fun h => H.d10 (by simpa using h)⟩⟩
          · cases ho
            clear hdep
            go_simp
            refine hK _ _ ?_
            have hlt := H.c.1.2.2
            have hn := heap_alloc_newP W (.cells #[.slice none 0 0, .slice none 0 0, .int .i64 0, .int .i64 0, .int .i64 0] 35)
            have hb : Below W.heap.size W (W.alloc (.cells #[.slice none 0 0, .slice none 0 0, .int .i64 0, .int .i64 0, .int .i64 0] 35)) := (Below.refl _ W).alloc (Nat.le_refl _) _
            replace H := H.grow hb
            exact ⟨_, _, _, _, _, _, rfl, ⟨H.c, fun h => H.d1 (by simpa using h), fun h => H.d3 (by simpa using h), fun h => H.d5 (by simpa using h), fun h => H.d6 (by simpa using h), fun _ => ⟨_, _, _, _, _, _, rfl, hlt, hn⟩, fun h => H.d8 (by simpa using h), fun h => H.d9 (by simpa using h), fun h => (by have h := (H.d10 (by simpa using h)).1.2; rw [hd] at h; cases h)⟩⟩
          · cases ho
            have h1 := hdep 1 (by kernel_rfl) (by simp)
            have h2 := hdep 6 (by kernel_rfl) (by simp)
            clear hdep
            obtain ⟨aa, cc, ab, cb, rfl, o1, o2⟩ := H.d1 h1
            obtain ⟨pb, u0, u1, u2, u3, u4, rfl, hp, hn⟩ := H.d6 h2
            obtain ⟨⟨b0, b1, b2, b3, b4⟩, y0, y1, y2, y3, y4⟩ := five_of_heap hn
            go_simp
            refine hK _ _ ?_
            exact ⟨_, _, _, _, _, _, rfl, ⟨⟨⟨below_set5 _ _ _ _ _ H.c.1.1 (Nat.le_trans H.c.1.2.1 (Nat.le_of_lt hp)), H.c.1.2.1, Nat.lt_of_lt_of_le H.c.1.2.2 (Nat.le_of_eq (set5_size _ _ _ _ _).symm)⟩, ⟨(cell_set5 _ _ _ _ _ (Nat.ne_of_lt hp)).trans H.c.2.c0, (cell_set5 _ _ _ _ _ (Nat.ne_of_lt hp)).trans H.c.2.c1, (cell_set5 _ _ _ _ _ (Nat.ne_of_lt hp)).trans H.c.2.c2, (cell_set5 _ _ _ _ _ (Nat.ne_of_lt hp)).trans H.c.2.c3, (cell_set5 _ _ _ _ _ (Nat.ne_of_lt hp)).trans H.c.2.c4⟩⟩, fun h => (H.d1 (by simpa using h)).set5 _ _ _ _ _ hn (by decide) (by decide), fun h => (H.d3 (by simpa using h)).set5 _ _ _ _ _ hn (by decide), fun h => (H.d5 (by simpa using h)).set5 _ _ _ _ _ hn (by decide) (by decide), fun h => (H.d6 (by simpa using h)).set5 _ _ _ _ _ hn, fun h => (H.d7 (by simpa using h)).set5 _ _ _ _ _ hn, fun _ => ⟨by simpa using And.intro h1 h2, fu5_new hp hn⟩, fun h => H.d9 (by simpa using h), fun h => ⟨by simpa using (H.d10 (by simpa using h)).1, (H.d10 (by simpa using h)).2.set5 _ _ _ _ _ hn (by decide)⟩⟩⟩
          · cases ho
            have h3 := hdep 3 (by kernel_rfl) (by simp)
            clear hdep
            go_simp
            refine hK _ _ ?_
            exact ⟨_, _, _, _, _, _, rfl, ⟨H.c, fun h => H.d1 (by simpa using h), fun h => H.d3 (by simpa using h), fun h => H.d5 (by simpa using h), fun h => H.d6 (by simpa using h), fun h => H.d7 (by simpa using h), fun h => H.d8 (by simpa using h), fun _ => ⟨by simpa using h3, rfl⟩, fun h => H.d10 (by simpa using h)⟩⟩
          · cases ho
            have h1 := hdep 5 (by kernel_rfl) (by simp)
            have h2 := hdep 7 (by kernel_rfl) (by simp)
            clear hdep
            obtain ⟨aa, cc, ab, cb, rfl, o1, o2⟩ := H.d5 h1
            obtain ⟨pb, u0, u1, u2, u3, u4, rfl, hp, hn⟩ := H.d7 h2
            obtain ⟨⟨b0, b1, b2, b3, b4⟩, y0, y1, y2, y3, y4⟩ := five_of_heap hn
            go_simp
            refine hK _ _ ?_
            exact ⟨_, _, _, _, _, _, rfl, ⟨⟨⟨below_set5 _ _ _ _ _ H.c.1.1 (Nat.le_trans H.c.1.2.1 (Nat.le_of_lt hp)), H.c.1.2.1, Nat.lt_of_lt_of_le H.c.1.2.2 (Nat.le_of_eq (set5_size _ _ _ _ _).symm)⟩, ⟨(cell_set5 _ _ _ _ _ (Nat.ne_of_lt hp)).trans H.c.2.c0, (cell_set5 _ _ _ _ _ (Nat.ne_of_lt hp)).trans H.c.2.c1, (cell_set5 _ _ _ _ _ (Nat.ne_of_lt hp)).trans H.c.2.c2, (cell_set5 _ _ _ _ _ (Nat.ne_of_lt hp)).trans H.c.2.c3, (cell_set5 _ _ _ _ _ (Nat.ne_of_lt hp)).trans H.c.2.c4⟩⟩, fun h => (H.d1 (by simpa using h)).set5 _ _ _ _ _ hn (by decide) (by decide), fun h => (H.d3 (by simpa using h)).set5 _ _ _ _ _ hn (by decide), fun h => (H.d5 (by simpa using h)).set5 _ _ _ _ _ hn (by decide) (by decide), fun h => (H.d6 (by simpa using h)).set5 _ _ _ _ _ hn, fun h => (H.d7 (by simpa using h)).set5 _ _ _ _ _ hn, fun h => ⟨by simpa using (H.d8 (by simpa using h)).1, (H.d8 (by simpa using h)).2.set5 _ _ _ _ _ hn (by decide)⟩, fun h => H.d9 (by simpa using h), fun _ => ⟨by simpa using And.intro h1 h2, fu5_new hp hn⟩⟩⟩
        case fin =>
          rintro done act W hall ⟨x39, x41, x43, x11, x13, x12, rfl, H⟩
          obtain ⟨-, hf1⟩ := H.d8 (hall 8 (by simp))
          obtain ⟨-, rfl⟩ := H.d9 (hall 9 (by simp))
          obtain ⟨-, hf2⟩ := H.d10 (hall 10 (by simp))
          obtain ⟨a1, c1, a2, c2, rfl, o1, o2⟩ := H.d1 (hall 1 (by simp))
          obtain ⟨a4, c4, a5, c5, rfl, o4, o5⟩ := H.d5 (hall 5 (by simp))
          obtain ⟨al0, cl0, rfl, ol0⟩ := H.d3 (hall 3 (by simp))
          have HLS0 := Lib.hid ol0
          obtain ⟨qo, u0, u1, u2, u3, u4, rfl, hp, e1, hn1⟩ := hf1
          obtain ⟨qm, v0, v1, v2, v3, v4, rfl, hq, e2, hn2⟩ := hf2
          simp only [Value.agg.injEq, Array.mk.injEq, List.cons.injEq, and_true] at e1 e2
          obtain ⟨rfl, rfl, rfl, rfl, rfl⟩ := e1
          obtain ⟨rfl, rfl, rfl, rfl, rfl⟩ := e2
          have h1 := five_of_heap hn1
          have h2 := five_of_heap hn2
          have HG : Hid (GS5 w q qo qm n1 n2 p tl lo hi (.slice a n1 ac) (.slice g n2 gc) (.slice a1 n1 c1) (.slice a2 n2 c2) (.slice a4 n1 c4) (.slice a5 n2 c5) W) := Lib.hid ⟨H.c.1.1, H.c.2, ⟨h1.1.1, h1.1.2.1, h1.1.2.2.1, h1.1.2.2.2.1, h1.1.2.2.2.2⟩, ⟨h2.1.1, h2.1.2.1, h2.1.2.2.1, h2.1.2.2.2.1, h2.1.2.2.2.2⟩, RS.of_owns o1, RS.of_owns o2, RS.of_owns o4, RS.of_owns o5⟩
          clear hall h1 h2 hn1 hn2 hp hq o1 o2 o4 o5 H HP0 ol0
          dsimp only
          have hC : (fun W => (W.cell? ⟨qo, 0, none⟩ = some (.slice a1 n1 c1) ∧ W.cell? ⟨qo, 1, none⟩ = some (.slice a2 n2 c2) ∧ W.cell? ⟨qo, 2, none⟩ = some (.int .i64 tl) ∧ W.cell? ⟨qo, 3, none⟩ = some (.int .i64 lo) ∧ W.cell? ⟨qo, 4, none⟩ = some (.int .i64 hi)) ∧ W.cell? ⟨qm, 0, none⟩ = some (.slice a4 n1 c4) ∧ W.cell? ⟨qm, 1, none⟩ = some (.slice a5 n2 c5) ∧ W.cell? ⟨qm, 2, none⟩ = some (.int .i64 tl) ∧ W.cell? ⟨qm, 3, none⟩ = some (.int .i64 lo) ∧ W.cell? ⟨qm, 4, none⟩ = some (.int .i64 hi)) W.drew := ⟨⟨by simpa using HG.out.o.c0, by simpa using HG.out.o.c1, by simpa using HG.out.o.c2, by simpa using HG.out.o.c3, by simpa using HG.out.o.c4⟩, by simpa using HG.out.m.c0, by simpa using HG.out.m.c1, by simpa using HG.out.m.c2, by simpa using HG.out.m.c3, by simpa using HG.out.m.c4⟩
          have HBD : Hid (Below W.heap.size W W.drew) := Lib.hid (Below.refl _ W).drew
          replace HG := Lib.hid (HG.out.grow HBD.out)
          replace HLS0 := Lib.hid (RS.on (RS.of_owns HLS0.out) HBD.out)
          clear HBD d1 d1' d2 d2' d3 d3'
          go_wp2_with fail
          generalize hW0 : W.drew = w3 at HG HLS0 hC
          refine Lim.regC' (fun W => (W.cell? ⟨qo, 0, none⟩ = some (.slice a1 n1 c1) ∧ W.cell? ⟨qo, 1, none⟩ = some (.slice a2 n2 c2) ∧ W.cell? ⟨qo, 2, none⟩ = some (.int .i64 tl) ∧ W.cell? ⟨qo, 3, none⟩ = some (.int .i64 lo) ∧ W.cell? ⟨qo, 4, none⟩ = some (.int .i64 hi)) ∧ W.cell? ⟨qm, 0, none⟩ = some (.slice a4 n1 c4) ∧ W.cell? ⟨qm, 1, none⟩ = some (.slice a5 n2 c5) ∧ W.cell? ⟨qm, 2, none⟩ = some (.int .i64 tl) ∧ W.cell? ⟨qm, 3, none⟩ = some (.int .i64 lo) ∧ W.cell? ⟨qm, 4, none⟩ = some (.int .i64 hi)) [] #[false, false, false, false, false] (by kernel_rfl) rfl ?_
          rw [hW0]; clear hW0
          refine Lim.stepR 0 (fun _ => trivial) rfl (by kernel_rfl) (fun _ _ _ _ h => h) hC rfl ?_; apply Exists.intro; refine ⟨?_, ?_⟩
          · rintro w ⟨⟨r0, r1, r2, r3, r4⟩, s0, s1, s2, s3, s4⟩; go_simp; try with_reducible rfl
          simp only [Act.put, List.setIfInBounds_toArray, List.set_cons_succ, List.set_cons_zero]
          refine Lim.stepR 2 (fun _ => trivial) rfl (by kernel_rfl) (fun _ _ _ _ h => h) hC rfl ?_; apply Exists.intro; refine ⟨?_, ?_⟩
          · rintro w ⟨⟨r0, r1, r2, r3, r4⟩, s0, s1, s2, s3, s4⟩; go_simp; try with_reducible rfl
          simp only [Act.put, List.setIfInBounds_toArray, List.set_cons_succ, List.set_cons_zero]
          refine Lim.stepE 1 (fun _ => trivial) rfl (by kernel_rfl) rfl (fun K hK => ?_)   -- E call
          go_simp
          refine ⟨rfl, (callsIn_wide.2 (HX1.out _ _ _ HG.out.oa HG.out.og)).mono ?_⟩
          rintro e w4 ⟨rfl, hb⟩
          replace HG := Lib.hid (HG.out.grow hb)
          replace HLS0 := Lib.hid (RS.on HLS0.out hb)
          have hC2 : (fun W => (W.cell? ⟨qo, 0, none⟩ = some (.slice a1 n1 c1) ∧ W.cell? ⟨qo, 1, none⟩ = some (.slice a2 n2 c2) ∧ W.cell? ⟨qo, 2, none⟩ = some (.int .i64 tl) ∧ W.cell? ⟨qo, 3, none⟩ = some (.int .i64 lo) ∧ W.cell? ⟨qo, 4, none⟩ = some (.int .i64 hi)) ∧ W.cell? ⟨qm, 0, none⟩ = some (.slice a4 n1 c4) ∧ W.cell? ⟨qm, 1, none⟩ = some (.slice a5 n2 c5) ∧ W.cell? ⟨qm, 2, none⟩ = some (.int .i64 tl) ∧ W.cell? ⟨qm, 3, none⟩ = some (.int .i64 lo) ∧ W.cell? ⟨qm, 4, none⟩ = some (.int .i64 hi)) w4 := ⟨⟨HG.out.o.c0, HG.out.o.c1, HG.out.o.c2, HG.out.o.c3, HG.out.o.c4⟩, HG.out.m.c0, HG.out.m.c1, HG.out.m.c2, HG.out.m.c3, HG.out.m.c4⟩
          clear hb
          refine hK _ _ hC2 ?_
          simp only [Act.put, List.setIfInBounds_toArray, List.set_cons_succ, List.set_cons_zero]
          refine Lim.stepE 3 (fun _ => trivial) rfl (by kernel_rfl) rfl (fun K hK => ?_)   -- E call
          go_simp
          refine ⟨rfl, (callsIn_wide.2 (HX2.out _ _ _ HG.out.ma HG.out.mg)).mono ?_⟩
          rintro e w5 ⟨rfl, hb⟩
          replace HG := Lib.hid (HG.out.grow hb)
          replace HLS0 := Lib.hid (RS.on HLS0.out hb)
          have hC3 : (fun W => (W.cell? ⟨qo, 0, none⟩ = some (.slice a1 n1 c1) ∧ W.cell? ⟨qo, 1, none⟩ = some (.slice a2 n2 c2) ∧ W.cell? ⟨qo, 2, none⟩ = some (.int .i64 tl) ∧ W.cell? ⟨qo, 3, none⟩ = some (.int .i64 lo) ∧ W.cell? ⟨qo, 4, none⟩ = some (.int .i64 hi)) ∧ W.cell? ⟨qm, 0, none⟩ = some (.slice a4 n1 c4) ∧ W.cell? ⟨qm, 1, none⟩ = some (.slice a5 n2 c5) ∧ W.cell? ⟨qm, 2, none⟩ = some (.int .i64 tl) ∧ W.cell? ⟨qm, 3, none⟩ = some (.int .i64 lo) ∧ W.cell? ⟨qm, 4, none⟩ = some (.int .i64 hi)) w5 := ⟨⟨HG.out.o.c0, HG.out.o.c1, HG.out.o.c2, HG.out.o.c3, HG.out.o.c4⟩, HG.out.m.c0, HG.out.m.c1, HG.out.m.c2, HG.out.m.c3, HG.out.m.c4⟩
          clear hb
          refine hK _ _ hC3 ?_
          simp only [Act.put, List.setIfInBounds_toArray, List.set_cons_succ, List.set_cons_zero]
          refine Lim.stepR 4 (fun _ => trivial) rfl (by kernel_rfl) (fun _ _ _ _ h => h) hC3 rfl ?_; apply Exists.intro; refine ⟨?_, ?_⟩
          · rintro w ⟨⟨r0, r1, r2, r3, r4⟩, s0, s1, s2, s3, s4⟩; go_simp; try with_reducible rfl
          simp only [Act.put, List.setIfInBounds_toArray, List.set_cons_succ, List.set_cons_zero]
          refine Lim.stepD (by kernel_rfl) ?_
          clear hC hC2 hC3
          obtain ⟨er, her⟩ : ∃ x, x = p.err := ⟨_, rfl⟩
          rw [← her]
          clear her
          have de : (er != er) = false := by simp
          obtain ⟨o0, o1, o2, o3, o4⟩ := HG.out.o
          go_wp2_with fail
          refine (HX3.out _ _ _ _ HG.out.oa HG.out.og HLS0.out).mono ?_
          rintro e w6 ⟨rfl, hb⟩
          replace HG := Lib.hid (HG.out.grow hb)
          replace HLS0 := Lib.hid (RS.on HLS0.out hb)
          clear hb
          clear de
          obtain ⟨rb, re, hre⟩ := real_form p xs bd i j
          rw [hre] at HX4 ⊢
          clear o0 o1 o2 o3 o4
          obtain ⟨m0, m1, m2, m3, m4⟩ := HG.out.m
          go_wp2_with fail
          refine (HX4.out _ _ _ HG.out.ma HG.out.mg HG.out.be).mono ?_
          rintro e w7 ⟨rfl, hb⟩
          replace HG := Lib.hid (HG.out.grow hb)
          replace HLS0 := Lib.hid (RS.on HLS0.out hb)
          clear hb
          have db : (rb != rb) = false := by simp
          have de : (re != re) = false := by simp
          obtain ⟨o0, o1, o2, o3, o4⟩ := HG.out.o
          go_wp2_with fail
          refine (HX5.out _ _ _ HG.out.oa HG.out.og).mono ?_
          rintro e w8 ⟨rfl, hb⟩
          replace HG := Lib.hid (HG.out.grow hb)
          replace HLS0 := Lib.hid (RS.on HLS0.out hb)
          clear hb
          clear db de
          obtain ⟨sb, sc, se, hse⟩ := sees_form p i j
          rw [hse] at HX6 ⊢
          clear o0 o1 o2 o3 o4
          obtain ⟨m0, m1, m2, m3, m4⟩ := HG.out.m
          go_wp2_with fail
          refine (HX6.out _ _ _ HG.out.ma HG.out.mg).mono ?_
          rintro e w9 ⟨rfl, hb⟩
          replace HG := Lib.hid (HG.out.grow hb)
          replace HLS0 := Lib.hid (RS.on HLS0.out hb)
          clear hb
          have db : (sb != sb) = false := by simp
          have dc : (sc != sc) = false := by simp
          have de : (se != se) = false := by simp
          obtain ⟨o0, o1, o2, o3, o4⟩ := HG.out.o
          go_wp2_with fail
          refine (HX7.out _ _ _ HG.out.oa HG.out.og).mono ?_
          rintro e w10 ⟨rfl, hb⟩
          replace HG := Lib.hid (HG.out.grow hb)
          replace HLS0 := Lib.hid (RS.on HLS0.out hb)
          clear hb
          clear db dc de
          obtain ⟨tt, te, hte⟩ := tall_form p i j
          rw [hte] at HX8 ⊢
          clear o0 o1 o2 o3 o4
          obtain ⟨m0, m1, m2, m3, m4⟩ := HG.out.m
          go_wp2_with fail
          refine (HX8.out _ _ _ HG.out.ma HG.out.mg).mono ?_
          rintro e w11 ⟨rfl, hb⟩
          replace HG := Lib.hid (HG.out.grow hb)
          replace HLS0 := Lib.hid (RS.on HLS0.out hb)
          clear hb
          have dt : (tt == tt) = true := by simp
          have de : (te == te) = true := by simp
          obtain ⟨o0, o1, o2, o3, o4⟩ := HG.out.o
          obtain ⟨c0, c1, c2, c3, c4⟩ := HG.out.c
          go_wp2_with fail
          refine (HSA.out _ _ _ HG.out.be HG.out.oa HG.out.og).mono ?_
          rintro e w12 ⟨rfl, hb⟩
          replace HG := Lib.hid (HG.out.grow hb)
          replace HLS0 := Lib.hid (RS.on HLS0.out hb)
          clear hb
          clear c0 c1 c2 c3 c4
          go_wp2_with fail
          refine (HEQ.out _ _ HG.out.be HLS0.out).mono ?_
          rintro e w13 ⟨rfl, hb⟩
          replace HG := Lib.hid (HG.out.grow hb)
          replace HLS0 := Lib.hid (RS.on HLS0.out hb)
          clear hb
          go_wp2_with fail
          refine (awake_any _).mono ?_
          rintro e w14 ⟨rfl, hb⟩
          replace HG := Lib.hid (HG.out.grow hb)
          replace HLS0 := Lib.hid (RS.on HLS0.out hb)
          clear hb
          go_wp2
          go_ret
          exact ⟨rfl, HG.out.be⟩
end Go.Proofs.Ytobmhamdkngehaa
