/-
  Parts of the proof, in the order in which they build: LwM.
-/
import Derived.Test.YtobmhamdkngehaaA20
import Derived.Test.YtobmhamdkngehaaA25
set_option linter.unusedVariables false
set_option linter.unusedSimpArgs false
namespace Go.Proofs.Ytobmhamdkngehaa
open Go.RowKit Go.Shelf
open Lim

/-- what Mend answers, in plain words -/
def MendQ (p : Pf) (xs : List Int) (lost : Int) (R : List Int) (er : Int) : Prop :=
  (p.err ≠ 0 ∧ R = [] ∧ er = p.err) ∨ (p.err = 0 ∧ inAll p.n xs = false ∧ R = [] ∧ er = 2) ∨ (p.err = 0 ∧ inAll p.n xs = true ∧ holdsP p xs = false ∧ R = [] ∧ er = 9) ∨
    (p.err = 0 ∧ inAll p.n xs = true ∧ holdsP p xs = true ∧ inR lost 1 ((xs.length : Int) - 2) = false ∧ R = [] ∧ er = 2) ∨
    (p.err = 0 ∧ inAll p.n xs = true ∧ holdsP p xs = true ∧ inR lost 1 ((xs.length : Int) - 2) = true ∧
      ((R = [] ∧ er = 7 ∧ ∀ L, ¬ Ch p.n p.sure (xs.getD lost.toNat 0) (xs.getD (lost.toNat + 1) 0).toNat (xs.getD (lost.toNat - 1) 0).toNat L) ∨
       (er = 0 ∧ ∃ L, IsBest p.n p.sure (xs.getD lost.toNat 0) (xs.getD (lost.toNat + 1) 0).toNat (xs.getD (lost.toNat - 1) 0).toNat L ∧ R = xs.take (lost.toNat - 1) ++ L.map Int.ofNat ++ xs.drop (lost.toNat + 2))))
theorem bool_no {b : Bool} (h : b = true) (h' : b = false) : False := by rw [h] at h'; cases h'
theorem MendQ.unique {p : Pf} {xs : List Int} {lost : Int} {R R' : List Int} {er er' : Int} (h : MendQ p xs lost R er) (h' : MendQ p xs lost R' er') : R = R' ∧ er = er' := by
  rcases h with ⟨h1, rfl, rfl⟩ | ⟨h1, h2, rfl, rfl⟩ | ⟨h1, h2, h3, rfl, rfl⟩ | ⟨h1, h2, h3, h4, rfl, rfl⟩ | ⟨h1, h2, h3, h4, h5⟩
  · rcases h' with ⟨-, rfl, rfl⟩ | ⟨k1, -⟩ | ⟨k1, -⟩ | ⟨k1, -⟩ | ⟨k1, -⟩
    · exact ⟨rfl, rfl⟩
    all_goals exact absurd k1 h1
  · rcases h' with ⟨k1, -⟩ | ⟨-, -, rfl, rfl⟩ | ⟨-, k2, -⟩ | ⟨-, k2, -⟩ | ⟨-, k2, -⟩
    · exact absurd h1 k1
    · exact ⟨rfl, rfl⟩
    all_goals exact (bool_no k2 h2).elim
  · rcases h' with ⟨k1, -⟩ | ⟨-, k2, -⟩ | ⟨-, -, -, rfl, rfl⟩ | ⟨-, -, k3, -⟩ | ⟨-, -, k3, -⟩
    · exact absurd h1 k1
    · exact (bool_no h2 k2).elim
    · exact ⟨rfl, rfl⟩
    all_goals exact (bool_no k3 h3).elim
  · rcases h' with ⟨k1, -⟩ | ⟨-, k2, -⟩ | ⟨-, -, k3, -⟩ | ⟨-, -, -, -, rfl, rfl⟩ | ⟨-, -, -, k4, -⟩
    · exact absurd h1 k1
    · exact (bool_no h2 k2).elim
    · exact (bool_no h3 k3).elim
    · exact ⟨rfl, rfl⟩
    · exact (bool_no k4 h4).elim
  · rcases h' with ⟨k1, -⟩ | ⟨-, k2, -⟩ | ⟨-, -, k3, -⟩ | ⟨-, -, -, k4, -⟩ | ⟨-, -, -, -, k5⟩
    · exact absurd h1 k1
    · exact (bool_no h2 k2).elim
    · exact (bool_no h3 k3).elim
    · exact (bool_no h4 k4).elim
    · rcases h5 with ⟨rfl, rfl, h5⟩ | ⟨rfl, L, h5, rfl⟩
      · rcases k5 with ⟨rfl, rfl, -⟩ | ⟨-, L', k5, -⟩
        · exact ⟨rfl, rfl⟩
        · exact (h5 _ k5.ch).elim
      · rcases k5 with ⟨-, -, k5⟩ | ⟨rfl, L', k5, rfl⟩
        · exact (k5 _ h5.ch).elim
        · rw [h5.unique k5]; exact ⟨rfl, rfl⟩
theorem MendQ.len {p : Pf} {xs : List Int} {lost : Int} {R : List Int} {er : Int} (h : MendQ p xs lost R er) (hx : xs.length ≤ 50) : R.length ≤ 1000 := by
  rcases h with ⟨h1, rfl, rfl⟩ | ⟨h1, h2, rfl, rfl⟩ | ⟨h1, h2, h3, rfl, rfl⟩ | ⟨h1, h2, h3, h4, rfl, rfl⟩ | ⟨h1, h2, h3, h4, ⟨rfl, -⟩ | ⟨-, L, h5, rfl⟩⟩
  · simp
  · simp
  · simp
  · simp
  · simp
  · have h6 := h5.ch.len
    have h7 := inR_iff.1 h4
    have h8 := inAll_at h2 (k := lost.toNat + 1) (by omega)
    have h9 := (err_ok h1).n40
    simp only [List.length_append, List.length_map, List.length_take, List.length_drop]
    omega
theorem owns_cap {w : World} {base e size n c : Nat} {a : Option Addr} {xs : List Value} (h : w.ownsRow base e size (.slice a n c) n xs) : n ≤ c := by
  rcases h.2 with ⟨h1, h2⟩ | ⟨g, cap, cur, h1, -, -, h2, -⟩
  · omega
  · cases h1; exact h2
/-- a box's five cells -/
structure Fv (W : World) (q : Nat) (a b : Value) (tl lo hi : Int) : Prop where
  c0 : W.cell? ⟨q, 0, none⟩ = some a
  c1 : W.cell? ⟨q, 1, none⟩ = some b
  c2 : W.cell? ⟨q, 2, none⟩ = some (.int .i64 tl)
  c3 : W.cell? ⟨q, 3, none⟩ = some (.int .i64 lo)
  c4 : W.cell? ⟨q, 4, none⟩ = some (.int .i64 hi)
theorem Fv.grow {W W' : World} {q : Nat} {a b : Value} {tl lo hi : Int} (h : Fv W q a b tl lo hi) (hb : Below W.heap.size W W') : Fv W' q a b tl lo hi := ⟨hb.on h.c0, hb.on h.c1, hb.on h.c2, hb.on h.c3, hb.on h.c4⟩
/-- what lies in memory while the statement's function runs -/
structure MeM (w : World) (q qo n1 n2 m : Nat) (p : Pf) (tl lo hi : Int) (av gv ao go vm : Value) (xs : List Int) (W : World) : Prop where
  be : Below w.heap.size w W
  c : Fv W q av gv tl lo hi
  o : Fv W qo ao go tl lo hi
  oa : RS W.heap.size W ao n1 (ints p.ats)
  og : RS W.heap.size W go n2 (spans p.gr)
  mi : RS W.heap.size W vm m (ints xs)
theorem MeM.grow {w : World} {q qo n1 n2 m : Nat} {p : Pf} {tl lo hi : Int} {av gv ao go vm : Value} {xs : List Int} {W W' : World} (h : MeM w q qo n1 n2 m p tl lo hi av gv ao go vm xs W) (hb : Below W.heap.size W W') : MeM w q qo n1 n2 m p tl lo hi av gv ao go vm xs W' :=
  ⟨h.be.trans (hb.mono h.be.size), h.c.grow hb, h.o.grow hb, RS.on h.oa hb, RS.on h.og hb, RS.on h.mi hb⟩
set_option maxRecDepth 20000 in
set_option maxHeartbeats 8000000 in
theorem mendsl_any {B : Nat} {p : Pf} {av gv v : Value} {xs : List Int} {lost : Int} {w : World} (hB : B ≤ w.heap.size) (ha : RS B w av p.ats.length (ints p.ats)) (hg : RS B w gv p.gr.length (spans p.gr)) (hv : RS B w v xs.length (ints xs)) (hcap : ∀ a c, v = .slice a xs.length c → xs.length ≤ c) :
    Calls Try.prog 3 #[.agg #[av, gv, .int .i64 p.tall, .int .i64 p.lo, .int .i64 p.hi], v, .int .i64 lost] w fun e w' => e = .returned (.bool true) ∧ Below w.heap.size w w' := by
  have HR := Lib.hid (And.intro hB (And.intro ha (And.intro hg (And.intro hv hcap))))
  obtain ⟨a, ac, rfl, -⟩ := ha
  obtain ⟨g, gc, rfl, -⟩ := hg
  obtain ⟨va, vc, rfl, -⟩ := hv
  obtain ⟨n1, hn1⟩ : ∃ x, x = p.ats.length := ⟨_, rfl⟩
  obtain ⟨n2, hn2⟩ : ∃ x, x = p.gr.length := ⟨_, rfl⟩
  obtain ⟨m, hm⟩ : ∃ x, x = xs.length := ⟨_, rfl⟩
  obtain ⟨tl, htl⟩ : ∃ x, x = p.tall := ⟨_, rfl⟩
  obtain ⟨lo, hlo⟩ : ∃ x, x = p.lo := ⟨_, rfl⟩
  obtain ⟨hi, hhi⟩ : ∃ x, x = p.hi := ⟨_, rfl⟩
  have HRA : Hid (RS B w (.slice a n1 ac) p.ats.length (ints p.ats) ∧ RS B w (.slice g n2 gc) p.gr.length (spans p.gr) ∧ RS B w (.slice va m vc) xs.length (ints xs)) := Lib.hid ⟨by rw [hn1]; exact HR.out.2.1, by rw [hn2]; exact HR.out.2.2.1, by rw [hm]; exact HR.out.2.2.2.1⟩
  rw [← hn1, ← hn2, ← hm, ← htl, ← hlo, ← hhi]
  have HN := Lib.hid (And.intro hn1 (And.intro hn2 (And.intro hm (And.intro htl (And.intro hlo hhi)))))
  have HMB : Hid (Below w.heap.size w (w.alloc (.cells #[.slice a n1 ac, .slice g n2 gc, .int .i64 tl, .int .i64 lo, .int .i64 hi] 27))) := Lib.hid ((Below.refl _ w).alloc (Nat.le_refl _) _)
  have HM : Hid ((w.alloc (.cells #[.slice a n1 ac, .slice g n2 gc, .int .i64 tl, .int .i64 lo, .int .i64 hi] 27)).cell? ⟨w.heap.size, 0, none⟩ = some (.slice a n1 ac) ∧ (w.alloc (.cells #[.slice a n1 ac, .slice g n2 gc, .int .i64 tl, .int .i64 lo, .int .i64 hi] 27)).cell? ⟨w.heap.size, 1, none⟩ = some (.slice g n2 gc) ∧ (w.alloc (.cells #[.slice a n1 ac, .slice g n2 gc, .int .i64 tl, .int .i64 lo, .int .i64 hi] 27)).cell? ⟨w.heap.size, 2, none⟩ = some (.int .i64 tl) ∧ (w.alloc (.cells #[.slice a n1 ac, .slice g n2 gc, .int .i64 tl, .int .i64 lo, .int .i64 hi] 27)).cell? ⟨w.heap.size, 3, none⟩ = some (.int .i64 lo) ∧ (w.alloc (.cells #[.slice a n1 ac, .slice g n2 gc, .int .i64 tl, .int .i64 lo, .int .i64 hi] 27)).cell? ⟨w.heap.size, 4, none⟩ = some (.int .i64 hi)) := Lib.hid ⟨by simp [go_sem], by simp [go_sem], by simp [go_sem], by simp [go_sem], by simp [go_sem]⟩
  clear hn1 hn2 hm htl hlo hhi hB hcap
  go_enter Try.func3, Try.ntmps3
  go_upto_region 1 with (fail)
  obtain ⟨q, hq⟩ : ∃ q, q = w.heap.size := ⟨_, rfl⟩
  rw [← hq] at HM
  simp only [← hq]
  clear hq
  generalize w.alloc (.cells #[.slice a n1 ac, .slice g n2 gc, .int .i64 tl, .int .i64 lo, .int .i64 hi] 27) = w1 at HM HMB ⊢
  obtain ⟨k0, k1, k2, k3, k4⟩ := HM.out
  clear HM
  by_cases h1 : 45 < n1
  · have d1 : decide (45 < n1) = true := decide_eq_true h1
    have d1' : decide ((45 : Int) < (n1 : Int)) = true := decide_eq_true (by omega)
    go_wp2_with fail
    refine (awake_any _).mono ?_
    rintro e w2 ⟨rfl, hb2⟩
    have HB2 : Hid (Below w.heap.size w w2) := Lib.hid (HMB.out.trans (hb2.mono HMB.out.size))
    clear hb2
    go_wp2
    go_ret
    exact ⟨rfl, HB2.out⟩
  · have d1 : decide (45 < n1) = false := decide_eq_false h1
    have d1' : decide ((45 : Int) < (n1 : Int)) = false := decide_eq_false (by omega)
    by_cases h2 : 45 < n2
    · have d2 : decide (45 < n2) = true := decide_eq_true h2
      have d2' : decide ((45 : Int) < (n2 : Int)) = true := decide_eq_true (by omega)
      go_wp2_with fail
      refine (awake_any _).mono ?_
      rintro e w2 ⟨rfl, hb2⟩
      have HB2 : Hid (Below w.heap.size w w2) := Lib.hid (HMB.out.trans (hb2.mono HMB.out.size))
      clear hb2
      go_wp2
      go_ret
      exact ⟨rfl, HB2.out⟩
    · have d2 : decide (45 < n2) = false := decide_eq_false h2
      have d2' : decide ((45 : Int) < (n2 : Int)) = false := decide_eq_false (by omega)
      by_cases h3 : 50 < m
      · have d3 : decide (50 < m) = true := decide_eq_true h3
        have d3' : decide ((50 : Int) < (m : Int)) = true := decide_eq_true (by omega)
        go_wp2_with fail
        refine (awake_any _).mono ?_
        rintro e w2 ⟨rfl, hb2⟩
        have HB2 : Hid (Below w.heap.size w w2) := Lib.hid (HMB.out.trans (hb2.mono HMB.out.size))
        clear hb2
        go_wp2
        go_ret
        exact ⟨rfl, HB2.out⟩
      · have d3 : decide (50 < m) = false := decide_eq_false h3
        have d3' : decide ((50 : Int) < (m : Int)) = false := decide_eq_false (by omega)
        have HL : Hid (p.ats.length ≤ 1000 ∧ p.gr.length ≤ 1000 ∧ xs.length ≤ 50) := Lib.hid (by have := HN.out; omega)
        clear h1 h2 h3
        have HME : Hid (∀ W ao go vm, RS W.heap.size W ao n1 (ints p.ats) → RS W.heap.size W go n2 (spans p.gr) → RS W.heap.size W vm m (ints xs) → (∀ (a : Option Addr) (c : Nat), vm = .slice a m c → m ≤ c) → Calls Try.prog 17 #[.agg #[ao, go, .int .i64 tl, .int .i64 lo, .int .i64 hi], vm, .int .i64 lost] W (MendAns W p xs lost)) := Lib.hid fun W ao go vm h1 h2 h3 h4 => by
          rw [HN.out.1] at h1
          rw [HN.out.2.1] at h2
          rw [HN.out.2.2.1] at h3 h4
          rw [HN.out.2.2.2.1, HN.out.2.2.2.2.1, HN.out.2.2.2.2.2]
          exact Mend_any (Nat.le_refl _) h1 h2 h3 h4 (by have := HL.out.2.2; omega)
        have HPR : Hid (∀ W, Below w.heap.size w W → Calls Try.prog 19 #[.agg #[.slice a n1 ac, .slice g n2 gc, .int .i64 tl, .int .i64 lo, .int .i64 hi]] W fun e w' => ∃ av' gv', e = .returned (.agg #[av', gv', .int .i64 tl, .int .i64 lo, .int .i64 hi]) ∧ w'.ownsRow W.heap.size 3 1 av' p.ats.length (ints p.ats) ∧ w'.ownsRow W.heap.size 25 2 gv' p.gr.length (spans p.gr) ∧ Below W.heap.size W w') := Lib.hid fun W hW =>
          profile_any (Nat.le_trans HR.out.1 hW.size) (HRA.out.1.below (hW.mono HR.out.1)) (HRA.out.2.1.below (hW.mono HR.out.1)) HL.out.1 HL.out.2.1
        have HRM : Hid (∀ W ao go, Below w.heap.size w W → RS W.heap.size W ao p.ats.length (ints p.ats) → RS W.heap.size W go p.gr.length (spans p.gr) → Calls Try.prog 18 #[.agg #[ao, go, .int .i64 tl, .int .i64 lo, .int .i64 hi], .slice va m vc, .int .i64 lost] W (MendAns W p xs lost)) := Lib.hid fun W ao go hW h1 h2 => by
          have h3 := (HRA.out.2.2.below (hW.mono HR.out.1)).mono (Nat.le_trans HR.out.1 hW.size)
          rw [HN.out.2.2.2.1, HN.out.2.2.2.2.1, HN.out.2.2.2.2.2]
          exact rMend_any (Nat.le_refl _) h1 h2 h3 (by rw [HN.out.2.2.1]; exact HR.out.2.2.2.2) (by have := HL.out.2.2; omega)
        have HSA : Hid (∀ W ao go, Below w.heap.size w W → RS W.heap.size W ao n1 (ints p.ats) → RS W.heap.size W go n2 (spans p.gr) → Calls Try.prog 21 #[.agg #[ao, go, .int .i64 tl, .int .i64 lo, .int .i64 hi], .agg #[.slice a n1 ac, .slice g n2 gc, .int .i64 tl, .int .i64 lo, .int .i64 hi]] W fun e w' => e = .returned (.bool true) ∧ Below W.heap.size W w') := Lib.hid fun W ao go hW h1 h2 => by
          rw [HN.out.1] at h1
          rw [HN.out.2.1] at h2
          exact psame_any ⟨Nat.le_refl _, Nat.le_trans HR.out.1 hW.size⟩ h1 h2 (HRA.out.1.below (hW.mono HR.out.1)) (HRA.out.2.1.below (hW.mono HR.out.1)) HL.out.1 HL.out.2.1
        have HEQ : Hid (∀ W vm, Below w.heap.size w W → RS W.heap.size W vm m (ints xs) → Calls Try.prog 20 #[vm, .slice va m vc] W fun e w' => e = .returned (.bool true) ∧ Below W.heap.size W w') := Lib.hid fun W vm hW h1 => by
          rw [HN.out.2.2.1] at h1
          have := equal_ints (by have := HL.out.2.2; omega) h1 (HRA.out.2.2.below (hW.mono HR.out.1))
          rw [decide_eq_true (rfl : xs = xs)] at this
          exact this
        go_wp2_with fail
        have H1 := HMB.out.mono HR.out.1
        have hcl := pclone_any (w := w1) (tl := tl) (lo := lo) (hi := hi) (Nat.le_trans HR.out.1 HMB.out.size) (HRA.out.1.below H1) (HRA.out.2.1.below H1) HL.out.1 HL.out.2.1
        rw [← HN.out.1, ← HN.out.2.1] at hcl
        refine hcl.mono ?_
        clear hcl
        rintro e w2 ⟨a2, g2, rfl, o1, o2, hb2⟩
        replace k0 := hb2.on k0
        replace k1 := hb2.on k1
        replace k2 := hb2.on k2
        replace k3 := hb2.on k3
        replace k4 := hb2.on k4
        have HB2 : Hid (Below w.heap.size w w2) := Lib.hid (HMB.out.trans (hb2.mono HMB.out.size))
        have HO1 := Lib.hid (And.intro (RS.of_owns o1) (RS.of_owns o2))
        obtain ⟨a3, c3, rfl, -⟩ := RS.of_owns o1
        obtain ⟨g3, e3, rfl, -⟩ := RS.of_owns o2
        clear hb2 o1 o2 H1 HMB
        go_wp2_with fail
        have H2 := HB2.out.mono HR.out.1
        have hcl := kclone_ints (w := w2) (by have := HL.out.2.2; omega) (HRA.out.2.2.below H2)
        refine hcl.mono ?_
        clear hcl
        rintro e w3 ⟨v3, rfl, o3, hb3⟩
        replace k0 := hb3.on k0
        replace k1 := hb3.on k1
        replace k2 := hb3.on k2
        replace k3 := hb3.on k3
        replace k4 := hb3.on k4
        have HB3 : Hid (Below w.heap.size w w3) := Lib.hid (HB2.out.trans (hb3.mono HB2.out.size))
        rw [← HN.out.2.2.1] at o3
        have HCAP : Hid (∀ (a : Option Addr) (c : Nat), v3 = .slice a m c → m ≤ c) := Lib.hid (fun a c e => owns_cap (e ▸ o3))
        obtain ⟨a4, c4, rfl, -⟩ := RS.of_owns o3
        have HO3 := Lib.hid (And.intro (RS.on HO1.out.1 hb3) (And.intro (RS.on HO1.out.2 hb3) (RS.of_owns o3)))
        clear hb3 o3 H2 HB2 HO1
        go_wp2_with fail
        have HB4 : Hid (Below w3.heap.size w3 (w3.alloc (.cells #[.slice a3 n1 c3, .slice g3 n2 e3, .int .i64 tl, .int .i64 lo, .int .i64 hi] 27))) := Lib.hid ((Below.refl _ w3).alloc (Nat.le_refl _) _)
        have HG4 : Hid (MeM w q w3.heap.size n1 n2 m p tl lo hi (.slice a n1 ac) (.slice g n2 gc) (.slice a3 n1 c3) (.slice g3 n2 e3) (.slice a4 m c4) xs (w3.alloc (.cells #[.slice a3 n1 c3, .slice g3 n2 e3, .int .i64 tl, .int .i64 lo, .int .i64 hi] 27))) := Lib.hid ⟨HB3.out.trans (HB4.out.mono HB3.out.size), Fv.grow ⟨k0, k1, k2, k3, k4⟩ HB4.out, ⟨by simp [go_sem], by simp [go_sem], by simp [go_sem], by simp [go_sem], by simp [go_sem]⟩, RS.on HO3.out.1 HB4.out, RS.on HO3.out.2.1 HB4.out, RS.on HO3.out.2.2 HB4.out⟩
        clear k0 k1 k2 k3 k4 HB4 HO3 HB3
        obtain ⟨qo, hqo⟩ : ∃ x, x = w3.heap.size := ⟨_, rfl⟩
        rw [← hqo] at HG4
        simp only [← hqo]
        clear hqo
        generalize w3.alloc (.cells #[.slice a3 n1 c3, .slice g3 n2 e3, .int .i64 tl, .int .i64 lo, .int .i64 hi] 27) = w4 at HG4 ⊢
        refine (HME.out _ _ _ _ HG4.out.oa HG4.out.og HG4.out.mi HCAP.out).mono ?_
        rintro e w5 ⟨hb5, v5, er, R5, rfl, o5, hq5⟩
        have HQ5 : Hid (MendQ p xs lost R5 er) := Lib.hid hq5
        have HG5 := Lib.hid (HG4.out.grow hb5)
        have HR5 := Lib.hid (RS.of_owns o5)
        have h1v := RS.one HR5.out
        clear hb5 o5 hq5 HG4 HME HCAP
        obtain ⟨k0, k1, k2, k3, k4⟩ := HG5.out.c
        go_wp2_with fail
        refine (HPR.out _ HG5.out.be).mono ?_
        rintro e w6 ⟨a6, g6, rfl, o1, o2, hb6⟩
        have HG6 := Lib.hid (HG5.out.grow hb6)
        have HR6 := Lib.hid (RS.on HR5.out hb6)
        have HO6 := Lib.hid (And.intro (RS.of_owns o1) (RS.of_owns o2))
        clear k0 k1 k2 k3 k4 o1 o2 hb6 HG5 HR5 HPR
        go_wp2_with fail
        refine (HRM.out _ _ _ HG6.out.be HO6.out.1 HO6.out.2).mono ?_
        rintro e w7 ⟨hb7, v7, er7, R7, rfl, o7, hq7⟩
        obtain ⟨e1, e2⟩ := MendQ.unique (p := p) hq7 HQ5.out
        subst e1
        subst e2
        have HG7 := Lib.hid (HG6.out.grow hb7)
        have HR7 := Lib.hid (And.intro (RS.on HR6.out hb7) (RS.of_owns o7))
        have h1v7 := RS.one HR7.out.2
        have de : (er7 == er7) = true := by simp
        clear hb7 o7 hq7 HG6 HR6 HO6 HRM
        go_wp2_with fail
        have hce := equal_ints (w := w7) (HQ5.out.len HL.out.2.2) HR7.out.1 HR7.out.2
        rw [decide_eq_true (rfl : R7 = R7)] at hce
        refine hce.mono ?_
        clear hce
        rintro e w8 ⟨rfl, hb8⟩
        have HG8 := Lib.hid (HG7.out.grow hb8)
        clear hb8 HG7 HR7 de
        obtain ⟨k0, k1, k2, k3, k4⟩ := HG8.out.c
        obtain ⟨m0, m1, m2, m3, m4⟩ := HG8.out.o
        go_wp2_with fail
        refine (HSA.out _ _ _ HG8.out.be HG8.out.oa HG8.out.og).mono ?_
        rintro e w9 ⟨rfl, hb9⟩
        have HG9 := Lib.hid (HG8.out.grow hb9)
        clear k0 k1 k2 k3 k4 m0 m1 m2 m3 m4 hb9 HG8 HSA
        go_wp2_with fail
        refine (HEQ.out _ _ HG9.out.be HG9.out.mi).mono ?_
        rintro e w10 ⟨rfl, hb10⟩
        have HB10 : Hid (Below w.heap.size w w10) := Lib.hid (HG9.out.be.trans (hb10.mono HG9.out.be.size))
        clear hb10 HG9 HEQ
        go_wp2_with fail
        refine (awake_any _).mono ?_
        rintro e w11 ⟨rfl, hb11⟩
        have HB11 : Hid (Below w.heap.size w w11) := Lib.hid (HB10.out.trans (hb11.mono HB10.out.size))
        clear hb11 HB10
        go_wp2
        go_ret
        exact ⟨rfl, HB11.out⟩
end Go.Proofs.Ytobmhamdkngehaa
