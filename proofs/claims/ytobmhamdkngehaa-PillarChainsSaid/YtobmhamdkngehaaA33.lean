/-
  Parts of the proof, in the order in which they build: LwH.
-/
import Derived.Test.YtobmhamdkngehaaA31
import Derived.Test.YtobmhamdkngehaaA32
set_option linter.unusedVariables false
set_option linter.unusedSimpArgs false
namespace Go.Proofs.Ytobmhamdkngehaa
open Go.RowKit Go.Shelf
open Lim

theorem holds_form (p : Pf) (xs : List Int) : ∃ (b : Bool) (e : Int), holdsAns p xs = .tuple #[.bool b, .int .i64 e] := by
  unfold holdsAns
  split
  · exact ⟨_, _, rfl⟩
  · split
    · exact ⟨_, _, rfl⟩
    · exact ⟨_, _, rfl⟩
/-- what Proves answers, in plain words -/
def ProvQ (p : Pf) (l : List Int) (r er : Int) : Prop :=
  (p.err ≠ 0 ∧ r = 0 ∧ er = p.err) ∨ (p.err = 0 ∧ l.length ≠ p.n ∧ r = 0 ∧ er = 2) ∨ (p.err = 0 ∧ l.length = p.n ∧ inLev l = false ∧ r = 0 ∧ er = 4) ∨
    (p.err = 0 ∧ l.length = p.n ∧ inLev l = true ∧ ¬ Proof p.n p.sure l ∧ r = 0 ∧ er = 9) ∨
    (p.err = 0 ∧ l.length = p.n ∧ inLev l = true ∧ Proof p.n p.sure l ∧ r = l.getD (p.n - 1) 0 - l.getD 0 0 + 1 ∧ er = 0)
theorem ProvQ.unique {p : Pf} {l : List Int} {r r' er er' : Int} (h : ProvQ p l r er) (h' : ProvQ p l r' er') : r = r' ∧ er = er' := by
  rcases h with ⟨h1, rfl, rfl⟩ | ⟨h1, h2, rfl, rfl⟩ | ⟨h1, h2, h3, rfl, rfl⟩ | ⟨h1, h2, h3, h4, rfl, rfl⟩ | ⟨h1, h2, h3, h4, rfl, rfl⟩ <;> rcases h' with ⟨k1, rfl, rfl⟩ | ⟨k1, k2, rfl, rfl⟩ | ⟨k1, k2, k3, rfl, rfl⟩ | ⟨k1, k2, k3, k4, rfl, rfl⟩ | ⟨k1, k2, k3, k4, rfl, rfl⟩ <;>
    first | exact ⟨rfl, rfl⟩ | exact absurd k1 h1 | exact absurd h1 k1 | exact absurd k2 h2 | exact absurd h2 k2 | exact (bool_no k3 h3).elim | exact (bool_no h3 k3).elim | exact absurd k4 h4 | exact absurd h4 k4
/-- what holds while the statement clones what it was given, in whatever order memory is laid -/
structure ChP (w : World) (q n1 n2 : Nat) (p : Pf) (tl lo hi : Int) (av gv : Value) (m : Nat) (xs : List Int) (m2 : Nat) (ls : List Int) (done : Nat → Bool) (x44 x46 x48 x50 x7 x10 x8 x9 : Value) (W : World) : Prop where
  c : (Below w.heap.size w W ∧ w.heap.size ≤ q ∧ q < W.heap.size) ∧ Fv W q av gv tl lo hi
  d1 : done 1 = true → Pq W q n1 n2 p tl lo hi x44
  d3 : done 3 = true → Lq W q m xs x46
  d5 : done 5 = true → Lq W q m2 ls x48
  d7 : done 7 = true → Pq W q n1 n2 p tl lo hi x50
  d8 : done 8 = true → Bx5 W q 27 x7
  d9 : done 9 = true → Bx5 W q 35 x10
  d10 : done 10 = true → (done 1 = true ∧ done 8 = true) ∧ Fu5 W q 27 x7 x44
  d11 : done 11 = true → done 3 = true ∧ x8 = x46
  d12 : done 12 = true → done 5 = true ∧ x9 = x48
  d13 : done 13 = true → (done 7 = true ∧ done 9 = true) ∧ Fu5 W q 35 x10 x50
theorem ChP.grow {w : World} {q n1 n2 : Nat} {p : Pf} {tl lo hi : Int} {av gv : Value} {m : Nat} {xs : List Int} {m2 : Nat} {ls : List Int} {done : Nat → Bool} {x44 x46 x48 x50 x7 x10 x8 x9 : Value} {W W' : World} (H : ChP w q n1 n2 p tl lo hi av gv m xs m2 ls done x44 x46 x48 x50 x7 x10 x8 x9 W) (hb : Below W.heap.size W W') : ChP w q n1 n2 p tl lo hi av gv m xs m2 ls done x44 x46 x48 x50 x7 x10 x8 x9 W' :=
  ⟨⟨⟨H.c.1.1.trans (hb.mono H.c.1.1.size), H.c.1.2.1, Nat.lt_of_lt_of_le H.c.1.2.2 hb.size⟩, H.c.2.grow hb⟩, fun h => (H.d1 h).grow hb, fun h => (H.d3 h).grow hb, fun h => (H.d5 h).grow hb, fun h => (H.d7 h).grow hb, fun h => (H.d8 h).grow hb, fun h => (H.d9 h).grow hb, fun h => ⟨(H.d10 h).1, (H.d10 h).2.grow hb⟩, H.d11, H.d12, fun h => ⟨(H.d13 h).1, (H.d13 h).2.grow hb⟩⟩
set_option maxRecDepth 20000 in
set_option maxHeartbeats 8000000 in
theorem chainsl_any {B : Nat} {p : Pf} {av gv v v2 : Value} {xs ls : List Int} {w : World} (hB : B ≤ w.heap.size) (ha : RS B w av p.ats.length (ints p.ats)) (hg : RS B w gv p.gr.length (spans p.gr)) (hv : RS B w v xs.length (ints xs)) (hv2 : RS B w v2 ls.length (ints ls)) :
    Calls Try.prog 12 #[.agg #[av, gv, .int .i64 p.tall, .int .i64 p.lo, .int .i64 p.hi], v, v2] w fun e w' => e = .returned (.bool true) ∧ Below w.heap.size w w' := by
  have HR := Lib.hid (And.intro hB (And.intro ha (And.intro hg (And.intro hv hv2))))
  obtain ⟨a, ac, rfl, -⟩ := ha
  obtain ⟨g, gc, rfl, -⟩ := hg
  obtain ⟨va, vc, rfl, -⟩ := hv
  obtain ⟨vb, vd, rfl, -⟩ := hv2
  obtain ⟨n1, hn1⟩ : ∃ x, x = p.ats.length := ⟨_, rfl⟩
  obtain ⟨n2, hn2⟩ : ∃ x, x = p.gr.length := ⟨_, rfl⟩
  obtain ⟨m, hm⟩ : ∃ x, x = xs.length := ⟨_, rfl⟩
  obtain ⟨m2, hm2⟩ : ∃ x, x = ls.length := ⟨_, rfl⟩
  obtain ⟨tl, htl⟩ : ∃ x, x = p.tall := ⟨_, rfl⟩
  obtain ⟨lo, hlo⟩ : ∃ x, x = p.lo := ⟨_, rfl⟩
  obtain ⟨hi, hhi⟩ : ∃ x, x = p.hi := ⟨_, rfl⟩
  have HRA : Hid (RS B w (.slice a n1 ac) p.ats.length (ints p.ats) ∧ RS B w (.slice g n2 gc) p.gr.length (spans p.gr) ∧ RS B w (.slice va m vc) xs.length (ints xs) ∧ RS B w (.slice vb m2 vd) ls.length (ints ls)) := Lib.hid ⟨by rw [hn1]; exact HR.out.2.1, by rw [hn2]; exact HR.out.2.2.1, by rw [hm]; exact HR.out.2.2.2.1, by rw [hm2]; exact HR.out.2.2.2.2⟩
  rw [← hn1, ← hn2, ← hm, ← hm2, ← htl, ← hlo, ← hhi]
  have HN := Lib.hid (And.intro hn1 (And.intro hn2 (And.intro hm (And.intro hm2 (And.intro htl (And.intro hlo hhi))))))
  have HMB : Hid (Below w.heap.size w (w.alloc (.cells #[.slice a n1 ac, .slice g n2 gc, .int .i64 tl, .int .i64 lo, .int .i64 hi] 27))) := Lib.hid ((Below.refl _ w).alloc (Nat.le_refl _) _)
  have HM : Hid ((w.alloc (.cells #[.slice a n1 ac, .slice g n2 gc, .int .i64 tl, .int .i64 lo, .int .i64 hi] 27)).cell? ⟨w.heap.size, 0, none⟩ = some (.slice a n1 ac) ∧ (w.alloc (.cells #[.slice a n1 ac, .slice g n2 gc, .int .i64 tl, .int .i64 lo, .int .i64 hi] 27)).cell? ⟨w.heap.size, 1, none⟩ = some (.slice g n2 gc) ∧ (w.alloc (.cells #[.slice a n1 ac, .slice g n2 gc, .int .i64 tl, .int .i64 lo, .int .i64 hi] 27)).cell? ⟨w.heap.size, 2, none⟩ = some (.int .i64 tl) ∧ (w.alloc (.cells #[.slice a n1 ac, .slice g n2 gc, .int .i64 tl, .int .i64 lo, .int .i64 hi] 27)).cell? ⟨w.heap.size, 3, none⟩ = some (.int .i64 lo) ∧ (w.alloc (.cells #[.slice a n1 ac, .slice g n2 gc, .int .i64 tl, .int .i64 lo, .int .i64 hi] 27)).cell? ⟨w.heap.size, 4, none⟩ = some (.int .i64 hi)) := Lib.hid ⟨by simp [go_sem], by simp [go_sem], by simp [go_sem], by simp [go_sem], by simp [go_sem]⟩
  clear hn1 hn2 hm hm2 htl hlo hhi hB
  go_enter Try.func12, Try.ntmps12
  go_upto_region 1 with (fail)
  obtain ⟨q, hq⟩ : ∃ q, q = w.heap.size := ⟨_, rfl⟩
  rw [← hq] at HM
  simp only [← hq]
  have HQ0 := Lib.hid hq
  clear hq
  generalize w.alloc (.cells #[.slice a n1 ac, .slice g n2 gc, .int .i64 tl, .int .i64 lo, .int .i64 hi] 27) = w1 at HM HMB ⊢
  obtain ⟨k0, k1, k2, k3, k4⟩ := HM.out
  have HQ2 : Hid (w.heap.size ≤ q ∧ q < w1.heap.size) := Lib.hid ⟨by rw [HQ0.out]; exact Nat.le_refl _, World.block_lt_of_cell? _ _ k0⟩
  clear HM
  by_cases h1 : 45 < n1
  · have d1 : decide (45 < n1) = true := decide_eq_true h1
    have d1' : decide ((45 : Int) < (n1 : Int)) = true := decide_eq_true (by omega)
    go_wp2_with fail
    refine (awake_any _).mono ?_
    rintro e w2 ⟨rfl, hb2⟩
    have HB2 : Hid (Below w.heap.size w w2) := Lib.hid (HMB.out.trans (hb2.mono HMB.out.size))
    clear hb2
    go_wp2
    go_ret
    exact ⟨rfl, HB2.out⟩
  · have d1 : decide (45 < n1) = false := decide_eq_false h1
    have d1' : decide ((45 : Int) < (n1 : Int)) = false := decide_eq_false (by omega)
    by_cases h2 : 45 < n2
    · have d2 : decide (45 < n2) = true := decide_eq_true h2
      have d2' : decide ((45 : Int) < (n2 : Int)) = true := decide_eq_true (by omega)
      go_wp2_with fail
      refine (awake_any _).mono ?_
      rintro e w2 ⟨rfl, hb2⟩
      have HB2 : Hid (Below w.heap.size w w2) := Lib.hid (HMB.out.trans (hb2.mono HMB.out.size))
      clear hb2
      go_wp2
      go_ret
      exact ⟨rfl, HB2.out⟩
    · have d2 : decide (45 < n2) = false := decide_eq_false h2
      have d2' : decide ((45 : Int) < (n2 : Int)) = false := decide_eq_false (by omega)
      by_cases h3 : 50 < m
      · have d3 : decide (50 < m) = true := decide_eq_true h3
        have d3' : decide ((50 : Int) < (m : Int)) = true := decide_eq_true (by omega)
        go_wp2_with fail
        refine (awake_any _).mono ?_
        rintro e w2 ⟨rfl, hb2⟩
        have HB2 : Hid (Below w.heap.size w w2) := Lib.hid (HMB.out.trans (hb2.mono HMB.out.size))
        clear hb2
        go_wp2
        go_ret
        exact ⟨rfl, HB2.out⟩
      · have d3 : decide (50 < m) = false := decide_eq_false h3
        have d3' : decide ((50 : Int) < (m : Int)) = false := decide_eq_false (by omega)
        by_cases h4 : 50 < m2
        · have d4 : decide (50 < m2) = true := decide_eq_true h4
          have d4' : decide ((50 : Int) < (m2 : Int)) = true := decide_eq_true (by omega)
          go_wp2_with fail
          refine (awake_any _).mono ?_
          rintro e w2 ⟨rfl, hb2⟩
          have HB2 : Hid (Below w.heap.size w w2) := Lib.hid (HMB.out.trans (hb2.mono HMB.out.size))
          clear hb2
          go_wp2
          go_ret
          exact ⟨rfl, HB2.out⟩
        · have d4 : decide (50 < m2) = false := decide_eq_false h4
          have d4' : decide ((50 : Int) < (m2 : Int)) = false := decide_eq_false (by omega)
          have HL : Hid (p.ats.length ≤ 1000 ∧ p.gr.length ≤ 1000 ∧ xs.length ≤ 50 ∧ ls.length ≤ 50) := Lib.hid (by have := HN.out; omega)
          clear h1 h2 h3 h4
          have HPR : Hid (∀ W, Below w.heap.size w W → Calls Try.prog 19 #[.agg #[.slice a n1 ac, .slice g n2 gc, .int .i64 tl, .int .i64 lo, .int .i64 hi]] W fun e w' => ∃ av' gv', e = .returned (.agg #[av', gv', .int .i64 tl, .int .i64 lo, .int .i64 hi]) ∧ w'.ownsRow W.heap.size 3 1 av' n1 (ints p.ats) ∧ w'.ownsRow W.heap.size 25 2 gv' n2 (spans p.gr) ∧ Below W.heap.size W w') := Lib.hid fun W hW => by
            have h := profile_any (tl := tl) (lo := lo) (hi := hi) (Nat.le_trans HR.out.1 hW.size) (HRA.out.1.below (hW.mono HR.out.1)) (HRA.out.2.1.below (hW.mono HR.out.1)) HL.out.1 HL.out.2.1
            rw [← HN.out.1, ← HN.out.2.1] at h
            exact h
          have HPC : Hid (∀ W, Below w.heap.size w W → Calls Try.prog 15 #[.agg #[.slice a n1 ac, .slice g n2 gc, .int .i64 tl, .int .i64 lo, .int .i64 hi]] W fun e w' => ∃ av' gv', e = .returned (.agg #[av', gv', .int .i64 tl, .int .i64 lo, .int .i64 hi]) ∧ w'.ownsRow W.heap.size 3 1 av' n1 (ints p.ats) ∧ w'.ownsRow W.heap.size 25 2 gv' n2 (spans p.gr) ∧ Below W.heap.size W w') := Lib.hid fun W hW => by
            have h := pclone_any (tl := tl) (lo := lo) (hi := hi) (Nat.le_trans HR.out.1 hW.size) (HRA.out.1.below (hW.mono HR.out.1)) (HRA.out.2.1.below (hW.mono HR.out.1)) HL.out.1 HL.out.2.1
            rw [← HN.out.1, ← HN.out.2.1] at h
            exact h
          have HKC0 : Hid (∀ W, Below w.heap.size w W → Calls Try.prog 16 #[.slice va m vc] W fun e w' => ∃ v, e = .returned v ∧ w'.ownsRow W.heap.size 3 1 v m (ints xs) ∧ Below W.heap.size W w') := Lib.hid fun W hW => by
            have h := kclone_ints (w := W) (by have := HL.out.2.2; omega) (HRA.out.2.2.1.below (hW.mono HR.out.1))
            rw [← HN.out.2.2.1] at h
            exact h
          have HEQ0 : Hid (∀ W vm, Below w.heap.size w W → RS W.heap.size W vm m (ints xs) → Calls Try.prog 20 #[vm, .slice va m vc] W fun e w' => e = .returned (.bool true) ∧ Below W.heap.size W w') := Lib.hid fun W vm hW h1 => by
            rw [HN.out.2.2.1] at h1
            have := equal_ints (by have := HL.out.2.2; omega) h1 (HRA.out.2.2.1.below (hW.mono HR.out.1))
            rw [decide_eq_true (rfl : xs = xs)] at this
            exact this
          have HKC1 : Hid (∀ W, Below w.heap.size w W → Calls Try.prog 16 #[.slice vb m2 vd] W fun e w' => ∃ v, e = .returned v ∧ w'.ownsRow W.heap.size 3 1 v m2 (ints ls) ∧ Below W.heap.size W w') := Lib.hid fun W hW => by
            have h := kclone_ints (w := W) (by have := HL.out.2.2; omega) (HRA.out.2.2.2.below (hW.mono HR.out.1))
            rw [← HN.out.2.2.2.1] at h
            exact h
          have HEQ1 : Hid (∀ W vm, Below w.heap.size w W → RS W.heap.size W vm m2 (ints ls) → Calls Try.prog 20 #[vm, .slice vb m2 vd] W fun e w' => e = .returned (.bool true) ∧ Below W.heap.size W w') := Lib.hid fun W vm hW h1 => by
            rw [HN.out.2.2.2.1] at h1
            have := equal_ints (by have := HL.out.2.2; omega) h1 (HRA.out.2.2.2.below (hW.mono HR.out.1))
            rw [decide_eq_true (rfl : ls = ls)] at this
            exact this
          have HSA : Hid (∀ W ao go, Below w.heap.size w W → RS W.heap.size W ao n1 (ints p.ats) → RS W.heap.size W go n2 (spans p.gr) → Calls Try.prog 21 #[.agg #[ao, go, .int .i64 tl, .int .i64 lo, .int .i64 hi], .agg #[.slice a n1 ac, .slice g n2 gc, .int .i64 tl, .int .i64 lo, .int .i64 hi]] W fun e w' => e = .returned (.bool true) ∧ Below W.heap.size W w') := Lib.hid fun W ao go hW h1 h2 => by
            rw [HN.out.1] at h1
            rw [HN.out.2.1] at h2
            exact psame_any ⟨Nat.le_refl _, Nat.le_trans HR.out.1 hW.size⟩ h1 h2 (HRA.out.1.below (hW.mono HR.out.1)) (HRA.out.2.1.below (hW.mono HR.out.1)) HL.out.1 HL.out.2.1
          have HX1 : Hid (∀ W ao go, RS W.heap.size W ao n1 (ints p.ats) → RS W.heap.size W go n2 (spans p.gr) → Calls Try.prog 38 #[.agg #[ao, go, .int .i64 tl, .int .i64 lo, .int .i64 hi]] W (FewAns W p)) := Lib.hid fun W ao go h1 h2 => by
            rw [HN.out.1] at h1
            rw [HN.out.2.1] at h2
            rw [HN.out.2.2.2.2.1, HN.out.2.2.2.2.2.1, HN.out.2.2.2.2.2.2]
            exact Fewest_any (Nat.le_refl _) h1 h2
          have HX2 : Hid (∀ W ao go, RS W.heap.size W ao n1 (ints p.ats) → RS W.heap.size W go n2 (spans p.gr) → Calls Try.prog 53 #[.agg #[ao, go, .int .i64 tl, .int .i64 lo, .int .i64 hi]] W (rFewAns W p)) := Lib.hid fun W ao go h1 h2 => by
            rw [HN.out.1] at h1
            rw [HN.out.2.1] at h2
            rw [HN.out.2.2.2.2.1, HN.out.2.2.2.2.2.1, HN.out.2.2.2.2.2.2]
            exact rFewest_any (Nat.le_refl _) h1 h2
          have HX3 : Hid (∀ W ao go, RS W.heap.size W ao n1 (ints p.ats) → RS W.heap.size W go n2 (spans p.gr) → Calls Try.prog 54 #[.agg #[ao, go, .int .i64 tl, .int .i64 lo, .int .i64 hi]] W (LevAns W p)) := Lib.hid fun W ao go h1 h2 => by
            rw [HN.out.1] at h1
            rw [HN.out.2.1] at h2
            rw [HN.out.2.2.2.2.1, HN.out.2.2.2.2.2.1, HN.out.2.2.2.2.2.2]
            exact Levels_any (Nat.le_refl _) h1 h2
          have HX4 : Hid (∀ W ao go vm (l : List Int) (hl : l.length ≤ 1000), RS W.heap.size W ao n1 (ints p.ats) → RS W.heap.size W go n2 (spans p.gr) → RS W.heap.size W vm l.length (ints l) → Calls Try.prog 55 #[.agg #[ao, go, .int .i64 tl, .int .i64 lo, .int .i64 hi], vm] W (ProvAns W p l)) := Lib.hid fun W ao go vm l hl h1 h2 h3 => by
            rw [HN.out.1] at h1
            rw [HN.out.2.1] at h2
            rw [HN.out.2.2.2.2.1, HN.out.2.2.2.2.2.1, HN.out.2.2.2.2.2.2]
            exact rProves_any (Nat.le_refl _) h1 h2 h3 hl
          have HX5 : Hid (∀ W ao go vm, RS W.heap.size W ao n1 (ints p.ats) → RS W.heap.size W go n2 (spans p.gr) → RS W.heap.size W vm m (ints xs) → Calls Try.prog 44 #[.agg #[ao, go, .int .i64 tl, .int .i64 lo, .int .i64 hi], vm] W fun e w' => e = .returned (holdsAns p xs) ∧ Below W.heap.size W w') := Lib.hid fun W ao go vm h1 h2 h3 => by
            rw [HN.out.1] at h1
            rw [HN.out.2.1] at h2
            rw [HN.out.2.2.2.2.1, HN.out.2.2.2.2.2.1, HN.out.2.2.2.2.2.2]
            exact Holds_any (Nat.le_refl _) h1 h2 (HN.out.2.2.1 ▸ h3) (by have := HL.out.2.2; omega)
          have HX6 : Hid (∀ W ao go, RS W.heap.size W ao n1 (ints p.ats) → RS W.heap.size W go n2 (spans p.gr) → Below w.heap.size w W → Calls Try.prog 56 #[.agg #[ao, go, .int .i64 tl, .int .i64 lo, .int .i64 hi], .slice va m vc] W fun e w' => e = .returned (holdsAns p xs) ∧ Below W.heap.size W w') := Lib.hid fun W ao go h1 h2 h3 => by
            rw [HN.out.1] at h1
            rw [HN.out.2.1] at h2
            rw [HN.out.2.2.2.2.1, HN.out.2.2.2.2.2.1, HN.out.2.2.2.2.2.2]
            exact rHolds_any (Nat.le_refl _) h1 h2 ((HRA.out.2.2.1.below (h3.mono HR.out.1)).mono (Nat.le_trans HR.out.1 h3.size)) (by have := HL.out.2.2; omega)
          have HX7 : Hid (∀ W ao go vm, RS W.heap.size W ao n1 (ints p.ats) → RS W.heap.size W go n2 (spans p.gr) → RS W.heap.size W vm m2 (ints ls) → Calls Try.prog 57 #[.agg #[ao, go, .int .i64 tl, .int .i64 lo, .int .i64 hi], vm] W (ProvAns W p ls)) := Lib.hid fun W ao go vm h1 h2 h3 => by
            rw [HN.out.1] at h1
            rw [HN.out.2.1] at h2
            rw [HN.out.2.2.2.2.1, HN.out.2.2.2.2.2.1, HN.out.2.2.2.2.2.2]
            exact Proves_any (Nat.le_refl _) h1 h2 (HN.out.2.2.2.1 ▸ h3) (by have := HL.out.2.2; omega)
          have HX8 : Hid (∀ W ao go, RS W.heap.size W ao n1 (ints p.ats) → RS W.heap.size W go n2 (spans p.gr) → Below w.heap.size w W → Calls Try.prog 55 #[.agg #[ao, go, .int .i64 tl, .int .i64 lo, .int .i64 hi], .slice vb m2 vd] W (ProvAns W p ls)) := Lib.hid fun W ao go h1 h2 h3 => by
            rw [HN.out.1] at h1
            rw [HN.out.2.1] at h2
            rw [HN.out.2.2.2.2.1, HN.out.2.2.2.2.2.1, HN.out.2.2.2.2.2.2]
            exact rProves_any (Nat.le_refl _) h1 h2 ((HRA.out.2.2.2.below (h3.mono HR.out.1)).mono (Nat.le_trans HR.out.1 h3.size)) (by have := HL.out.2.2; omega)
          have hC : (fun W => W.cell? ⟨q, 0, none⟩ = some (.slice a n1 ac) ∧ W.cell? ⟨q, 1, none⟩ = some (.slice g n2 gc) ∧ W.cell? ⟨q, 2, none⟩ = some (.int .i64 tl) ∧ W.cell? ⟨q, 3, none⟩ = some (.int .i64 lo) ∧ W.cell? ⟨q, 4, none⟩ = some (.int .i64 hi)) w1.drew := ⟨by simpa using k0, by simpa using k1, by simpa using k2, by simpa using k3, by simpa using k4⟩
          have HP0 : Hid (ChP w q n1 n2 p tl lo hi (.slice a n1 ac) (.slice g n2 gc) m xs m2 ls (fun _ => false) undef undef undef undef undef undef undef undef w1.drew) := Lib.hid ⟨⟨⟨HMB.out.drew, HQ2.out.1, by simpa using HQ2.out.2⟩, ⟨hC.1, hC.2.1, hC.2.2.1, hC.2.2.2.1, hC.2.2.2.2⟩⟩, fun h => (by cases h), fun h => (by cases h), fun h => (by cases h), fun h => (by cases h), fun h => (by cases h), fun h => (by cases h), fun h => (by cases h), fun h => (by cases h), fun h => (by cases h), fun h => (by cases h)⟩
          go_wp2_with fail
          clear k0 k1 k2 k3 k4
          refine Lim.regC' (fun W => W.cell? ⟨q, 0, none⟩ = some (.slice a n1 ac) ∧ W.cell? ⟨q, 1, none⟩ = some (.slice g n2 gc) ∧ W.cell? ⟨q, 2, none⟩ = some (.int .i64 tl) ∧ W.cell? ⟨q, 3, none⟩ = some (.int .i64 lo) ∧ W.cell? ⟨q, 4, none⟩ = some (.int .i64 hi)) [] #[false, false, false, false, false, false, false, false, false, false, false, false, false, false] (by kernel_rfl) rfl ?_
          refine Lim.stepR 0 (fun _ => trivial) rfl (by kernel_rfl) (fun _ _ _ _ h => h) hC rfl ?_; apply Exists.intro; refine ⟨?_, ?_⟩
          · rintro w ⟨r0, r1, r2, r3, r4⟩; go_simp; try with_reducible rfl
          simp only [Act.put, List.setIfInBounds_toArray, List.set_cons_succ, List.set_cons_zero]
          refine Lim.stepR 2 (fun _ => trivial) rfl (by kernel_rfl) (fun _ _ _ _ h => h) hC rfl ?_; apply Exists.intro; refine ⟨?_, ?_⟩
          · rintro w ⟨r0, r1, r2, r3, r4⟩; go_simp; try with_reducible rfl
          simp only [Act.put, List.setIfInBounds_toArray, List.set_cons_succ, List.set_cons_zero]
          refine Lim.stepR 4 (fun _ => trivial) rfl (by kernel_rfl) (fun _ _ _ _ h => h) hC rfl ?_; apply Exists.intro; refine ⟨?_, ?_⟩
          · rintro w ⟨r0, r1, r2, r3, r4⟩; go_simp; try with_reducible rfl
          simp only [Act.put, List.setIfInBounds_toArray, List.set_cons_succ, List.set_cons_zero]
          refine Lim.stepR 6 (fun _ => trivial) rfl (by kernel_rfl) (fun _ _ _ _ h => h) hC rfl ?_; apply Exists.intro; refine ⟨?_, ?_⟩
          · rintro w ⟨r0, r1, r2, r3, r4⟩; go_simp; try with_reducible rfl
          simp only [Act.put, List.setIfInBounds_toArray, List.set_cons_succ, List.set_cons_zero]
          clear hC
          refine Lim.parC [1, 3, 5, 7, 8, 9, 10, 11, 12, 13] (fun done act W => ∃ x44 x46 x48 x50 x7 x10 x8 x9, act = { tmps := #[Value.agg #[Value.slice a n1 ac, Value.slice g n2 gc, Value.int IntKind.i64 tl, Value.int IntKind.i64 lo, Value.int IntKind.i64 hi], Value.slice va m vc, Value.slice vb m2 vd, Value.pointer (some ⟨q, 0, none⟩), undef, undef, Value.bool false, x7, x8, x9, x10, undef, undef, undef, undef, undef, undef, undef, undef, undef, undef, undef, Value.pointer (some ⟨q, 0, none⟩), Value.slice a n1 ac, Value.int IntKind.i64 n1, Value.bool false, Value.bool false, Value.pointer (some ⟨q, 1, none⟩), Value.slice g n2 gc, Value.int IntKind.i64 n2, Value.bool false, Value.bool false, Value.bool false, Value.slice va m vc, Value.int IntKind.i64 m, Value.bool false, Value.bool false, Value.bool false, Value.slice vb m2 vd, Value.int IntKind.i64 m2, Value.bool false, Value.bool false, undef, Value.agg #[Value.slice a n1 ac, Value.slice g n2 gc, Value.int IntKind.i64 tl, Value.int IntKind.i64 lo, Value.int IntKind.i64 hi], x44, Value.slice va m vc, x46, Value.slice vb m2 vd, x48, Value.agg #[Value.slice a n1 ac, Value.slice g n2 gc, Value.int IntKind.i64 tl, Value.int IntKind.i64 lo, Value.int IntKind.i64 hi], x50, undef, undef, undef, undef, undef, undef, undef, undef, undef, undef, undef, undef, undef, undef, undef, undef, undef, undef, undef, undef, undef, undef, undef, undef, undef, undef, undef, undef, undef, undef, undef, undef, undef, undef, undef, undef, undef, undef, undef, undef, undef, undef, undef, undef, undef, undef, undef, undef, undef, undef, undef, undef, undef, undef, undef, undef, undef, undef, undef, undef, undef, undef, undef, undef, undef, undef, undef, undef, undef, undef, undef, undef, undef, undef, undef, undef, undef, undef, undef, undef, undef, undef, undef, undef, undef, undef, undef, undef, undef, undef, undef, undef, undef, undef, undef, undef, undef, undef, undef, undef, undef, undef, undef, undef, undef, undef, undef, undef, undef, undef], defers := [] } ∧ ChP w q n1 n2 p tl lo hi (.slice a n1 ac) (.slice g n2 gc) m xs m2 ls done x44 x46 x48 x50 x7 x10 x8 x9 W) (fun _ => trivial) (by kernel_rfl) rfl rfl ?hC ?step ?fin ⟨_, _, _, _, _, _, _, _, rfl, HP0.out⟩
          case hC => rintro done act W ⟨_, _, _, _, _, _, _, _, _, H⟩; exact ⟨H.c.2.c0, H.c.2.c1, H.c.2.c2, H.c.2.c3, H.c.2.c4⟩
          case step =>
            intro ii o hi ho done act W hd hdep hS K hK
            obtain ⟨x44, x46, x48, x50, x7, x10, x8, x9, rfl, H⟩ := hS
            simp only [List.mem_cons, List.not_mem_nil, or_false] at hi
            rcases hi with rfl | rfl | rfl | rfl | rfl | rfl | rfl | rfl | rfl | rfl
            · cases ho
              have HC := HPC.out W H.c.1.1
              clear hdep
              go_simp
              refine ⟨rfl, (callsIn_wide.2 HC).mono ?_⟩
              rintro e W' ⟨av', gv', rfl, o1, o2, hb⟩
              refine hK _ _ ?_
              have hsz := Nat.le_of_lt H.c.1.2.2
              replace H := H.grow hb
              obtain ⟨aa, cc, rfl, -⟩ := RS.of_owns o1
              obtain ⟨ab, cb, rfl, -⟩ := RS.of_owns o2
              exact ⟨_, _, _, _, _, _, _, _, rfl, ⟨H.c, fun _ => ⟨aa, cc, ab, cb, rfl, owns_mono o1 hsz, owns_mono o2 hsz⟩, fun h => H.d3 (by simpa using h), fun h => H.d5 (by simpa using h), fun h => H.d7 (by simpa using h), fun h => H.d8 (by simpa using h), fun h => H.d9 (by simpa using h), fun h => (by have h := (H.d10 (by simpa using h)).1.1; rw [hd] at h; cases h), fun h => H.d11 (by simpa using h), fun h => H.d12 (by simpa using h), fun h => H.d13 (by simpa using h)⟩⟩
            · cases ho
              have HC := HKC0.out W H.c.1.1
              clear hdep
              go_simp
              refine ⟨rfl, (callsIn_wide.2 HC).mono ?_⟩
              rintro e W' ⟨v, rfl, o1, hb⟩
              refine hK _ _ ?_
              have hsz := Nat.le_of_lt H.c.1.2.2
              replace H := H.grow hb
              obtain ⟨aa, cc, rfl, -⟩ := RS.of_owns o1
              exact ⟨_, _, _, _, _, _, _, _, rfl, ⟨H.c, fun h => H.d1 (by simpa using h), fun _ => ⟨aa, cc, rfl, owns_mono o1 hsz⟩, fun h => H.d5 (by simpa using h), fun h => H.d7 (by simpa using h), fun h => H.d8 (by simpa using h), fun h => H.d9 (by simpa using h), fun h => H.d10 (by simpa using h), fun h => (by have h := (H.d11 (by simpa using h)).1; rw [hd] at h; cases h), fun h => H.d12 (by simpa using h), fun h => H.d13 (by simpa using h)⟩⟩
            · cases ho
              have HC := HKC1.out W H.c.1.1
              clear hdep
              go_simp
              refine ⟨rfl, (callsIn_wide.2 HC).mono ?_⟩
              rintro e W' ⟨v, rfl, o1, hb⟩
              refine hK _ _ ?_
              have hsz := Nat.le_of_lt H.c.1.2.2
              replace H := H.grow hb
              obtain ⟨aa, cc, rfl, -⟩ := RS.of_owns o1
              exact ⟨_, _, _, _, _, _, _, _, rfl, ⟨H.c, fun h => H.d1 (by simpa using h), fun h => H.d3 (by simpa using h), fun _ => ⟨aa, cc, rfl, owns_mono o1 hsz⟩, fun h => H.d7 (by simpa using h), fun h => H.d8 (by simpa using h), fun h => H.d9 (by simpa using h), fun h => H.d10 (by simpa using h), fun h => H.d11 (by simpa using h), fun h => (by have h := (H.d12 (by simpa using h)).1; rw [hd] at h; cases h), fun h => H.d13 (by simpa using h)⟩⟩
            · cases ho
              have HC := HPR.out W H.c.1.1
              clear hdep
              go_simp
              refine ⟨rfl, (callsIn_wide.2 HC).mono ?_⟩
              rintro e W' ⟨av', gv', rfl, o1, o2, hb⟩
              refine hK _ _ ?_
              have hsz := Nat.le_of_lt H.c.1.2.2
              replace H := H.grow hb
              obtain ⟨aa, cc, rfl, -⟩ := RS.of_owns o1
              obtain ⟨ab, cb, rfl, -⟩ := RS.of_owns o2
              exact ⟨_, _, _, _, _, _, _, _, rfl, ⟨H.c, fun h => H.d1 (by simpa using h), fun h => H.d3 (by simpa using h), fun h => H.d5 (by simpa using h), fun _ => ⟨aa, cc, ab, cb, rfl, owns_mono o1 hsz, owns_mono o2 hsz⟩, fun h => H.d8 (by simpa using h), fun h => H.d9 (by simpa using h), fun h => H.d10 (by simpa using h), fun h => H.d11 (by simpa using h), fun h => H.d12 (by simpa using h), fun h => (by have h := (H.d13 (by simpa using h)).1.1; rw [hd] at h; cases h)⟩⟩
            · cases ho
              clear hdep
              go_simp
              refine hK _ _ ?_
              have hlt := H.c.1.2.2
              have hn := heap_alloc_newP W (.cells #[.slice none 0 0, .slice none 0 0, .int .i64 0, .int .i64 0, .int .i64 0] 27)
              have hb : Below W.heap.size W (W.alloc (.cells #[.slice none 0 0, .slice none 0 0, .int .i64 0, .int .i64 0, .int .i64 0] 27)) := (Below.refl _ W).alloc (Nat.le_refl _) _
              replace H := H.grow hb
              exact ⟨_, _, _, _, _, _, _, _, rfl, ⟨H.c, fun h => H.d1 (by simpa using h), fun h => H.d3 (by simpa using h), fun h => H.d5 (by simpa using h), fun h => H.d7 (by simpa using h), fun _ => ⟨_, _, _, _, _, _, rfl, hlt, hn⟩, fun h => H.d9 (by simpa using h), fun h => (by have h := (H.d10 (by simpa using h)).1.2; rw [hd] at h; cases h), fun h => H.d11 (by simpa using h), fun h => H.d12 (by simpa using h), fun h => H.d13 (by simpa using h)⟩⟩
            · cases ho
              clear hdep
              go_simp
              refine hK _ _ ?_
              have hlt := H.c.1.2.2
              have hn := heap_alloc_newP W (.cells #[.slice none 0 0, .slice none 0 0, .int .i64 0, .int .i64 0, .int .i64 0] 35)
              have hb : Below W.heap.size W (W.alloc (.cells #[.slice none 0 0, .slice none 0 0, .int .i64 0, .int .i64 0, .int .i64 0] 35)) := (Below.refl _ W).alloc (Nat.le_refl _) _
              replace H := H.grow hb
              exact ⟨_, _, _, _, _, _, _, _, rfl, ⟨H.c, fun h => H.d1 (by simpa using h), fun h => H.d3 (by simpa using h), fun h => H.d5 (by simpa using h), fun h => H.d7 (by simpa using h), fun h => H.d8 (by simpa using h), fun _ => ⟨_, _, _, _, _, _, rfl, hlt, hn⟩, fun h => H.d10 (by simpa using h), fun h => H.d11 (by simpa using h), fun h => H.d12 (by simpa using h), fun h => (by have h := (H.d13 (by simpa using h)).1.2; rw [hd] at h; cases h)⟩⟩
            · cases ho
              have h1 := hdep 1 (by kernel_rfl) (by simp)
              have h2 := hdep 8 (by kernel_rfl) (by simp)
              clear hdep
              obtain ⟨aa, cc, ab, cb, rfl, o1, o2⟩ := H.d1 h1
              obtain ⟨pb, u0, u1, u2, u3, u4, rfl, hp, hn⟩ := H.d8 h2
              obtain ⟨⟨b0, b1, b2, b3, b4⟩, y0, y1, y2, y3, y4⟩ := five_of_heap hn
              go_simp
              refine hK _ _ ?_
              exact ⟨_, _, _, _, _, _, _, _, rfl, ⟨⟨⟨below_set5 _ _ _ _ _ H.c.1.1 (Nat.le_trans H.c.1.2.1 (Nat.le_of_lt hp)), H.c.1.2.1, Nat.lt_of_lt_of_le H.c.1.2.2 (Nat.le_of_eq (set5_size _ _ _ _ _).symm)⟩, ⟨(cell_set5 _ _ _ _ _ (Nat.ne_of_lt hp)).trans H.c.2.c0, (cell_set5 _ _ _ _ _ (Nat.ne_of_lt hp)).trans H.c.2.c1, (cell_set5 _ _ _ _ _ (Nat.ne_of_lt hp)).trans H.c.2.c2, (cell_set5 _ _ _ _ _ (Nat.ne_of_lt hp)).trans H.c.2.c3, (cell_set5 _ _ _ _ _ (Nat.ne_of_lt hp)).trans H.c.2.c4⟩⟩, fun h => (H.d1 (by simpa using h)).set5 _ _ _ _ _ hn (by decide) (by decide), fun h => (H.d3 (by simpa using h)).set5 _ _ _ _ _ hn (by decide), fun h => (H.d5 (by simpa using h)).set5 _ _ _ _ _ hn (by decide), fun h => (H.d7 (by simpa using h)).set5 _ _ _ _ _ hn (by decide) (by decide), fun h => (H.d8 (by simpa using h)).set5 _ _ _ _ _ hn, fun h => (H.d9 (by simpa using h)).set5 _ _ _ _ _ hn, fun _ => ⟨by simpa using And.intro h1 h2, fu5_new hp hn⟩, fun h => H.d11 (by simpa using h), fun h => H.d12 (by simpa using h), fun h => ⟨by simpa using (H.d13 (by simpa using h)).1, (H.d13 (by simpa using h)).2.set5 _ _ _ _ _ hn (by decide)⟩⟩⟩
            · cases ho
              have h3 := hdep 3 (by kernel_rfl) (by simp)
              clear hdep
              go_simp
              refine hK _ _ ?_
              exact ⟨_, _, _, _, _, _, _, _, rfl, ⟨H.c, fun h => H.d1 (by simpa using h), fun h => H.d3 (by simpa using h), fun h => H.d5 (by simpa using h), fun h => H.d7 (by simpa using h), fun h => H.d8 (by simpa using h), fun h => H.d9 (by simpa using h), fun h => H.d10 (by simpa using h), fun _ => ⟨by simpa using h3, rfl⟩, fun h => H.d12 (by simpa using h), fun h => H.d13 (by simpa using h)⟩⟩
            · cases ho
              have h3 := hdep 5 (by kernel_rfl) (by simp)
              clear hdep
              go_simp
              refine hK _ _ ?_
              exact ⟨_, _, _, _, _, _, _, _, rfl, ⟨H.c, fun h => H.d1 (by simpa using h), fun h => H.d3 (by simpa using h), fun h => H.d5 (by simpa using h), fun h => H.d7 (by simpa using h), fun h => H.d8 (by simpa using h), fun h => H.d9 (by simpa using h), fun h => H.d10 (by simpa using h), fun h => H.d11 (by simpa using h), fun _ => ⟨by simpa using h3, rfl⟩, fun h => H.d13 (by simpa using h)⟩⟩
            · cases ho
              have h1 := hdep 7 (by kernel_rfl) (by simp)
              have h2 := hdep 9 (by kernel_rfl) (by simp)
              clear hdep
              obtain ⟨aa, cc, ab, cb, rfl, o1, o2⟩ := H.d7 h1
              obtain ⟨pb, u0, u1, u2, u3, u4, rfl, hp, hn⟩ := H.d9 h2
              obtain ⟨⟨b0, b1, b2, b3, b4⟩, y0, y1, y2, y3, y4⟩ := five_of_heap hn
              go_simp
              refine hK _ _ ?_
              exact ⟨_, _, _, _, _, _, _, _, rfl, ⟨⟨⟨below_set5 _ _ _ _ _ H.c.1.1 (Nat.le_trans H.c.1.2.1 (Nat.le_of_lt hp)), H.c.1.2.1, Nat.lt_of_lt_of_le H.c.1.2.2 (Nat.le_of_eq (set5_size _ _ _ _ _).symm)⟩, ⟨(cell_set5 _ _ _ _ _ (Nat.ne_of_lt hp)).trans H.c.2.c0, (cell_set5 _ _ _ _ _ (Nat.ne_of_lt hp)).trans H.c.2.c1, (cell_set5 _ _ _ _ _ (Nat.ne_of_lt hp)).trans H.c.2.c2, (cell_set5 _ _ _ _ _ (Nat.ne_of_lt hp)).trans H.c.2.c3, (cell_set5 _ _ _ _ _ (Nat.ne_of_lt hp)).trans H.c.2.c4⟩⟩, fun h => (H.d1 (by simpa using h)).set5 _ _ _ _ _ hn (by decide) (by decide), fun h => (H.d3 (by simpa using h)).set5 _ _ _ _ _ hn (by decide), fun h => (H.d5 (by simpa using h)).set5 _ _ _ _ _ hn (by decide), fun h => (H.d7 (by simpa using h)).set5 _ _ _ _ _ hn (by decide) (by decide), fun h => (H.d8 (by simpa using h)).set5 _ _ _ _ _ hn, fun h => (H.d9 (by simpa using h)).set5 _ _ _ _ _ hn, fun h => ⟨by simpa using (H.d10 (by simpa using h)).1, (H.d10 (by simpa using h)).2.set5 _ _ _ _ _ hn (by decide)⟩, fun h => H.d11 (by simpa using h), fun h => H.d12 (by simpa using h), fun _ => ⟨by simpa using And.intro h1 h2, fu5_new hp hn⟩⟩⟩
          case fin =>
            rintro done act W hall ⟨x44, x46, x48, x50, x7, x10, x8, x9, rfl, H⟩
            obtain ⟨-, hf1⟩ := H.d10 (hall 10 (by simp))
            obtain ⟨-, rfl⟩ := H.d11 (hall 11 (by simp))
            obtain ⟨-, rfl⟩ := H.d12 (hall 12 (by simp))
            obtain ⟨-, hf2⟩ := H.d13 (hall 13 (by simp))
            obtain ⟨a1, c1, a2, c2, rfl, o1, o2⟩ := H.d1 (hall 1 (by simp))
            obtain ⟨a4, c4, a5, c5, rfl, o4, o5⟩ := H.d7 (hall 7 (by simp))
            obtain ⟨al0, cl0, rfl, ol0⟩ := H.d3 (hall 3 (by simp))
            have HLS0 := Lib.hid ol0
            obtain ⟨al1, cl1, rfl, ol1⟩ := H.d5 (hall 5 (by simp))
            have HLS1 := Lib.hid ol1
            obtain ⟨qo, u0, u1, u2, u3, u4, rfl, hp, e1, hn1⟩ := hf1
            obtain ⟨qm, v0, v1, v2, v3, v4, rfl, hq, e2, hn2⟩ := hf2
            simp only [Value.agg.injEq, Array.mk.injEq, List.cons.injEq, and_true] at e1 e2
            obtain ⟨rfl, rfl, rfl, rfl, rfl⟩ := e1
            obtain ⟨rfl, rfl, rfl, rfl, rfl⟩ := e2
            have h1 := five_of_heap hn1
            have h2 := five_of_heap hn2
            have HG : Hid (GS5 w q qo qm n1 n2 p tl lo hi (.slice a n1 ac) (.slice g n2 gc) (.slice a1 n1 c1) (.slice a2 n2 c2) (.slice a4 n1 c4) (.slice a5 n2 c5) W) := Lib.hid ⟨H.c.1.1, H.c.2, ⟨h1.1.1, h1.1.2.1, h1.1.2.2.1, h1.1.2.2.2.1, h1.1.2.2.2.2⟩, ⟨h2.1.1, h2.1.2.1, h2.1.2.2.1, h2.1.2.2.2.1, h2.1.2.2.2.2⟩, RS.of_owns o1, RS.of_owns o2, RS.of_owns o4, RS.of_owns o5⟩
            clear hall h1 h2 hn1 hn2 hp hq o1 o2 o4 o5 H HP0 ol0 ol1
            dsimp only
            replace HLS0 := Lib.hid (RS.of_owns HLS0.out)
            replace HLS1 := Lib.hid (RS.of_owns HLS1.out)
            clear d1 d1' d2 d2' d3 d3' d4 d4'
            obtain ⟨o0, o1, o2, o3, o4⟩ := HG.out.o
            go_wp2_with fail
            refine (HX1.out _ _ _ HG.out.oa HG.out.og).mono ?_
            rintro e w4 ⟨hb, hans⟩
            replace HG := Lib.hid (HG.out.grow hb)
            replace HLS0 := Lib.hid (RS.on HLS0.out hb)
            replace HLS1 := Lib.hid (RS.on HLS1.out hb)
            clear hb
            clear o0 o1 o2 o3 o4
            rcases hans with ⟨hne, rfl⟩ | ⟨he, v, L, rfl, hown, hbest, -⟩
            · have HNE := Lib.hid hne
              clear hne
              obtain ⟨er, her⟩ : ∃ x, x = p.err := ⟨_, rfl⟩
              have HER := Lib.hid her
              rw [← her]
              clear her
              obtain ⟨m0, m1, m2', m3, m4⟩ := HG.out.m
              go_wp2_with fail
              refine (HX2.out _ _ _ HG.out.ma HG.out.mg).mono ?_
              rintro e w5 ⟨hb, hans⟩
              replace HG := Lib.hid (HG.out.grow hb)
              replace HLS0 := Lib.hid (RS.on HLS0.out hb)
              replace HLS1 := Lib.hid (RS.on HLS1.out hb)
              clear hb
              clear m0 m1 m2' m3 m4
              rcases hans with ⟨-, rfl⟩ | ⟨he, -⟩
              rotate_left
              · exact absurd he HNE.out
              rw [← HER.out]
              have de : (er != er) = false := by simp
              go_wp2_with fail
              have hce := equal_ints (l1 := []) (l2 := []) (w := w5) (by simp) (RS.nil 0 w5) (RS.nil 0 w5)
              rw [decide_eq_true (rfl : ([] : List Int) = [])] at hce
              refine hce.mono ?_
              clear hce
              rintro e w6 ⟨rfl, hb⟩
              replace HG := Lib.hid (HG.out.grow hb)
              replace HLS0 := Lib.hid (RS.on HLS0.out hb)
              replace HLS1 := Lib.hid (RS.on HLS1.out hb)
              clear hb
              obtain ⟨o0, o1, o2, o3, o4⟩ := HG.out.o
              go_wp2_with fail
              refine (HX3.out _ _ _ HG.out.oa HG.out.og).mono ?_
              rintro e w7 ⟨hb, hans⟩
              replace HG := Lib.hid (HG.out.grow hb)
              replace HLS0 := Lib.hid (RS.on HLS0.out hb)
              replace HLS1 := Lib.hid (RS.on HLS1.out hb)
              clear hb
              clear o0 o1 o2 o3 o4
              rcases hans with ⟨-, rfl⟩ | ⟨he, -⟩
              rotate_left
              · exact absurd he HNE.out
              rw [← HER.out]
              have d0 : (er != 0) = true := by rw [bne_iff_ne, HER.out]; exact HNE.out
              have d1 : (er == 0) = false := by rw [beq_eq_false_iff_ne, HER.out]; exact HNE.out
              go_upto_region 15 with (fail)
              clear de d0 d1
              obtain ⟨o0, o1, o2, o3, o4⟩ := HG.out.o
              go_wp2_with fail
              refine (HX5.out _ _ _ _ HG.out.oa HG.out.og HLS0.out).mono ?_
              rintro e w15 ⟨rfl, hb⟩
              replace HG := Lib.hid (HG.out.grow hb)
              replace HLS0 := Lib.hid (RS.on HLS0.out hb)
              replace HLS1 := Lib.hid (RS.on HLS1.out hb)
              clear hb
              clear o0 o1 o2 o3 o4
              obtain ⟨hb0, he0, hh0⟩ := holds_form p xs
              rw [hh0] at HX6 ⊢
              obtain ⟨m0, m1, m2', m3, m4⟩ := HG.out.m
              go_wp2_with fail
              refine (HX6.out _ _ _ HG.out.ma HG.out.mg HG.out.be).mono ?_
              rintro e w16 ⟨rfl, hb⟩
              replace HG := Lib.hid (HG.out.grow hb)
              replace HLS0 := Lib.hid (RS.on HLS0.out hb)
              replace HLS1 := Lib.hid (RS.on HLS1.out hb)
              clear hb
              clear m0 m1 m2' m3 m4
              have db : (hb0 != hb0) = false := by simp
              have de : (he0 != he0) = false := by simp
              clear hh0
              obtain ⟨o0, o1, o2, o3, o4⟩ := HG.out.o
              go_wp2_with fail
              refine (HX7.out _ _ _ _ HG.out.oa HG.out.og HLS1.out).mono ?_
              rintro e w17 ⟨hb, r1, e1, rfl, hq1⟩
              replace HG := Lib.hid (HG.out.grow hb)
              replace HLS0 := Lib.hid (RS.on HLS0.out hb)
              replace HLS1 := Lib.hid (RS.on HLS1.out hb)
              clear hb
              clear o0 o1 o2 o3 o4
              have HQ1 : Hid (ProvQ p ls r1 e1) := Lib.hid hq1
              clear db de hq1
              obtain ⟨m0, m1, m2', m3, m4⟩ := HG.out.m
              go_wp2_with fail
              refine (HX8.out _ _ _ HG.out.ma HG.out.mg HG.out.be).mono ?_
              rintro e w18 ⟨hb, r2, e2, rfl, hq2⟩
              replace HG := Lib.hid (HG.out.grow hb)
              replace HLS0 := Lib.hid (RS.on HLS0.out hb)
              replace HLS1 := Lib.hid (RS.on HLS1.out hb)
              clear hb
              clear m0 m1 m2' m3 m4
              obtain ⟨er1, er2⟩ := ProvQ.unique (p := p) (l := ls) hq2 HQ1.out
              subst er1
              subst er2
              have dr : (r2 == r2) = true := by simp
              have de : (e2 == e2) = true := by simp
              clear hq2
              obtain ⟨o0, o1, o2, o3, o4⟩ := HG.out.o
              obtain ⟨c0, c1, c2, c3, c4⟩ := HG.out.c
              go_wp2_with fail
              refine (HSA.out _ _ _ HG.out.be HG.out.oa HG.out.og).mono ?_
              rintro e w19 ⟨rfl, hb⟩
              replace HG := Lib.hid (HG.out.grow hb)
              replace HLS0 := Lib.hid (RS.on HLS0.out hb)
              replace HLS1 := Lib.hid (RS.on HLS1.out hb)
              clear hb
              clear o0 o1 o2 o3 o4
              clear c0 c1 c2 c3 c4
              go_wp2_with fail
              refine (HEQ0.out _ _ HG.out.be HLS0.out).mono ?_
              rintro e w20 ⟨rfl, hb⟩
              replace HG := Lib.hid (HG.out.grow hb)
              replace HLS0 := Lib.hid (RS.on HLS0.out hb)
              replace HLS1 := Lib.hid (RS.on HLS1.out hb)
              clear hb
              go_wp2_with fail
              refine (HEQ1.out _ _ HG.out.be HLS1.out).mono ?_
              rintro e w21 ⟨rfl, hb⟩
              replace HG := Lib.hid (HG.out.grow hb)
              replace HLS0 := Lib.hid (RS.on HLS0.out hb)
              replace HLS1 := Lib.hid (RS.on HLS1.out hb)
              clear hb
              go_wp2_with fail
              refine (awake_any _).mono ?_
              rintro e w22 ⟨rfl, hb⟩
              replace HG := Lib.hid (HG.out.grow hb)
              replace HLS0 := Lib.hid (RS.on HLS0.out hb)
              replace HLS1 := Lib.hid (RS.on HLS1.out hb)
              clear hb
              go_wp2
              go_ret
              exact ⟨rfl, HG.out.be⟩
            · have HE := Lib.hid he
              have HBST := Lib.hid hbest
              have HV := Lib.hid (RS.of_owns hown)
              have h1v := RS.one HV.out
              clear he hbest hown
              obtain ⟨m0, m1, m2', m3, m4⟩ := HG.out.m
              go_wp2_with fail
              refine (HX2.out _ _ _ HG.out.ma HG.out.mg).mono ?_
              rintro e w5 ⟨hb, hans⟩
              replace HG := Lib.hid (HG.out.grow hb)
              replace HLS0 := Lib.hid (RS.on HLS0.out hb)
              replace HLS1 := Lib.hid (RS.on HLS1.out hb)
              replace HV := Lib.hid (RS.on HV.out hb)
              clear hb
              clear m0 m1 m2' m3 m4
              rcases hans with ⟨hne, -⟩ | ⟨-, v2, L2, rfl, hrs, hb2⟩
              · exact absurd HE.out hne
              obtain rfl := HBST.out.unique hb2
              have hlen : L.length ≤ 40 := by
                have h1 := HBST.out.ch.len
                have h2 := (err_ok HE.out).n40
                have h3 := (err_ok HE.out).n2
                omega
              have HV2 := Lib.hid hrs
              have hce := equal_ints (l1 := L.map Int.ofNat) (l2 := L.map Int.ofNat) (w := w5) (by simp; omega) (by simpa using HV.out) (by simpa using HV2.out)
              rw [decide_eq_true (rfl : L.map Int.ofNat = L.map Int.ofNat)] at hce
              obtain ⟨a6, c6, rfl, -⟩ := hrs
              obtain ⟨ll, hll⟩ : ∃ x, x = L.length := ⟨_, rfl⟩
              have HLL : Hid (ll = L.length ∧ L.length ≤ 40) := Lib.hid ⟨hll, hlen⟩
              rw [← hll] at hce ⊢
              have HCE := Lib.hid hce
              clear hb2 hlen hll hce
              go_wp2_with fail
              refine HCE.out.mono ?_
              rintro e w6 ⟨rfl, hb⟩
              replace HG := Lib.hid (HG.out.grow hb)
              replace HLS0 := Lib.hid (RS.on HLS0.out hb)
              replace HLS1 := Lib.hid (RS.on HLS1.out hb)
              clear hb
              clear HV HCE HV2
              obtain ⟨o0, o1, o2, o3, o4⟩ := HG.out.o
              go_wp2_with fail
              refine (HX3.out _ _ _ HG.out.oa HG.out.og).mono ?_
              rintro e w7 ⟨hb, hans⟩
              replace HG := Lib.hid (HG.out.grow hb)
              replace HLS0 := Lib.hid (RS.on HLS0.out hb)
              replace HLS1 := Lib.hid (RS.on HLS1.out hb)
              clear hb
              clear o0 o1 o2 o3 o4
              rcases hans with ⟨hne, -⟩ | ⟨-, vl, l, rfl, hown, hlt⟩
              · exact absurd HE.out hne
              have HLV := Lib.hid hlt
              have HLO : Hid (RS w7.heap.size w7 vl l.length (ints l)) := Lib.hid (by rw [hlt.len]; exact RS.of_owns hown)
              have h1l := RS.one HLO.out
              obtain ⟨a7, c7, rfl, -⟩ := HLO.out
              obtain ⟨kl, hkl⟩ : ∃ x, x = l.length := ⟨_, rfl⟩
              have HKL : Hid (l.length ≤ 1000) := Lib.hid (by rw [hlt.len]; have := (err_ok HE.out).n40; omega)
              rw [← hkl] at HLO ⊢
              have HKE := Lib.hid hkl
              clear hown hlt hkl
              go_upto_region 12 with (fail)
              obtain ⟨m0, m1, m2', m3, m4⟩ := HG.out.m
              go_wp2_with fail
              refine (HX4.out _ _ _ _ l HKL.out HG.out.ma HG.out.mg (HKE.out ▸ HLO.out)).mono ?_
              rintro e w8 ⟨hb, r0, e0, rfl, hq0⟩
              replace HG := Lib.hid (HG.out.grow hb)
              replace HLS0 := Lib.hid (RS.on HLS0.out hb)
              replace HLS1 := Lib.hid (RS.on HLS1.out hb)
              clear hb
              clear m0 m1 m2' m3 m4
              have hr0 : r0 = (ll : Int) ∧ e0 = 0 := by
                have hlv := HLV.out
                have hst : inLev l = true := by
                  unfold inLev
                  rw [List.all_eq_true]
                  intro x hx
                  obtain ⟨k, hk, rfl⟩ := List.mem_iff_getElem.1 hx
                  have := hlv.top k (by rw [← hlv.len]; exact hk)
                  rw [List.getD_eq_getElem?_getD, List.getElem?_eq_getElem hk] at this
                  exact inR_iff.2 this
                have hpr : Proof p.n p.sure l := fun i j h1 h2 h3 => hlv.done i j (by omega) h1 h2 h3
                have hbs := hlv.best rfl (t := p.n - 1) (by have := (err_ok HE.out).n2; omega) HBST.out HLL.out.2
                rcases hq0 with ⟨h, -⟩ | ⟨-, h, -⟩ | ⟨-, -, h, -⟩ | ⟨-, -, -, h, -⟩ | ⟨-, -, -, -, rfl, rfl⟩
                · exact absurd HE.out h
                · exact absurd hlv.len h
                · rw [hst] at h; cases h
                · exact absurd hpr h
                · exact ⟨by rw [HLL.out.1]; exact hbs, rfl⟩
              obtain ⟨rfl, rfl⟩ := hr0
              have dl : ((ll : Int) != (ll : Int)) = false := by simp
              clear hq0
              go_upto_region 15 with (fail)
              clear dl
              obtain ⟨o0, o1, o2, o3, o4⟩ := HG.out.o
              go_wp2_with fail
              refine (HX5.out _ _ _ _ HG.out.oa HG.out.og HLS0.out).mono ?_
              rintro e w15 ⟨rfl, hb⟩
              replace HG := Lib.hid (HG.out.grow hb)
              replace HLS0 := Lib.hid (RS.on HLS0.out hb)
              replace HLS1 := Lib.hid (RS.on HLS1.out hb)
              clear hb
              clear o0 o1 o2 o3 o4
              obtain ⟨hb0, he0, hh0⟩ := holds_form p xs
              rw [hh0] at HX6 ⊢
              obtain ⟨m0, m1, m2', m3, m4⟩ := HG.out.m
              go_wp2_with fail
              refine (HX6.out _ _ _ HG.out.ma HG.out.mg HG.out.be).mono ?_
              rintro e w16 ⟨rfl, hb⟩
              replace HG := Lib.hid (HG.out.grow hb)
              replace HLS0 := Lib.hid (RS.on HLS0.out hb)
              replace HLS1 := Lib.hid (RS.on HLS1.out hb)
              clear hb
              clear m0 m1 m2' m3 m4
              have db : (hb0 != hb0) = false := by simp
              have de : (he0 != he0) = false := by simp
              clear hh0
              obtain ⟨o0, o1, o2, o3, o4⟩ := HG.out.o
              go_wp2_with fail
              refine (HX7.out _ _ _ _ HG.out.oa HG.out.og HLS1.out).mono ?_
              rintro e w17 ⟨hb, r1, e1, rfl, hq1⟩
              replace HG := Lib.hid (HG.out.grow hb)
              replace HLS0 := Lib.hid (RS.on HLS0.out hb)
              replace HLS1 := Lib.hid (RS.on HLS1.out hb)
              clear hb
              clear o0 o1 o2 o3 o4
              have HQ1 : Hid (ProvQ p ls r1 e1) := Lib.hid hq1
              clear db de hq1
              obtain ⟨m0, m1, m2', m3, m4⟩ := HG.out.m
              go_wp2_with fail
              refine (HX8.out _ _ _ HG.out.ma HG.out.mg HG.out.be).mono ?_
              rintro e w18 ⟨hb, r2, e2, rfl, hq2⟩
              replace HG := Lib.hid (HG.out.grow hb)
              replace HLS0 := Lib.hid (RS.on HLS0.out hb)
              replace HLS1 := Lib.hid (RS.on HLS1.out hb)
              clear hb
              clear m0 m1 m2' m3 m4
              obtain ⟨er1, er2⟩ := ProvQ.unique (p := p) (l := ls) hq2 HQ1.out
              subst er1
              subst er2
              have dr : (r2 == r2) = true := by simp
              have de : (e2 == e2) = true := by simp
              clear hq2
              obtain ⟨o0, o1, o2, o3, o4⟩ := HG.out.o
              obtain ⟨c0, c1, c2, c3, c4⟩ := HG.out.c
              go_wp2_with fail
              refine (HSA.out _ _ _ HG.out.be HG.out.oa HG.out.og).mono ?_
              rintro e w19 ⟨rfl, hb⟩
              replace HG := Lib.hid (HG.out.grow hb)
              replace HLS0 := Lib.hid (RS.on HLS0.out hb)
              replace HLS1 := Lib.hid (RS.on HLS1.out hb)
              clear hb
              clear o0 o1 o2 o3 o4
              clear c0 c1 c2 c3 c4
              go_wp2_with fail
              refine (HEQ0.out _ _ HG.out.be HLS0.out).mono ?_
              rintro e w20 ⟨rfl, hb⟩
              replace HG := Lib.hid (HG.out.grow hb)
              replace HLS0 := Lib.hid (RS.on HLS0.out hb)
              replace HLS1 := Lib.hid (RS.on HLS1.out hb)
              clear hb
              go_wp2_with fail
              refine (HEQ1.out _ _ HG.out.be HLS1.out).mono ?_
              rintro e w21 ⟨rfl, hb⟩
              replace HG := Lib.hid (HG.out.grow hb)
              replace HLS0 := Lib.hid (RS.on HLS0.out hb)
              replace HLS1 := Lib.hid (RS.on HLS1.out hb)
              clear hb
              go_wp2_with fail
              refine (awake_any _).mono ?_
              rintro e w22 ⟨rfl, hb⟩
              replace HG := Lib.hid (HG.out.grow hb)
              replace HLS0 := Lib.hid (RS.on HLS0.out hb)
              replace HLS1 := Lib.hid (RS.on HLS1.out hb)
              clear hb
              go_wp2
              go_ret
              exact ⟨rfl, HG.out.be⟩
end Go.Proofs.Ytobmhamdkngehaa
