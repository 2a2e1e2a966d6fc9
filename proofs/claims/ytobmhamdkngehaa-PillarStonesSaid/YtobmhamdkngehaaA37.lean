/-
  Parts of the proof, in the order in which they build: LwT.
-/
import Derived.Test.YtobmhamdkngehaaA20
import Derived.Test.YtobmhamdkngehaaA36
import Derived.Test.YtobmhamdkngehaaB19
import Derived.Test.YtobmhamdkngehaaA9
import Derived.Test.YtobmhamdkngehaaA4
import Derived.Test.YtobmhamdkngehaaB36
set_option linter.unusedVariables false
set_option linter.unusedSimpArgs false
namespace Go.Proofs.Ytobmhamdkngehaa
open Go.RowKit Go.Shelf
open Lim

/-- what holds while the statement clones what it was given, in whatever order memory is laid -/
structure StP (w : World) (q n1 n2 m : Nat) (d : Rd) (rv fv mv : Value) (done : Nat → Bool) (x54 x55 x58 x61 x62 x7 x8 : Value) (W : World) : Prop where
  c : ((Below w.heap.size w W ∧ w.heap.size ≤ q ∧ q + 1 < W.heap.size) ∧ W.cell? ⟨q, 0, none⟩ = some rv ∧ W.cell? ⟨q + 1, 0, none⟩ = some fv ∧ W.cell? ⟨q + 1, 1, none⟩ = some mv)
  d2 : done 2 = true → Sq W q n1 d.r x54
  d3 : done 3 = true → done 2 = true ∧ x55 = .agg #[x54]
  d6 : done 6 = true → Sq W q n2 d.f x58
  d9 : done 9 = true → Iq W q m d.m x61
  d10 : done 10 = true → (done 6 = true ∧ done 9 = true) ∧ x62 = .agg #[x58, x61]
  d11 : done 11 = true → Bx1 W (q + 1) 41 x7
  d12 : done 12 = true → Bx2 W (q + 1) 43 x8
  d13 : done 13 = true → (done 3 = true ∧ done 11 = true) ∧ Fu1 W (q + 1) 41 x7 x55
  d14 : done 14 = true → (done 10 = true ∧ done 12 = true) ∧ Fu2 W (q + 1) 43 x8 x62
theorem StP.grow {w : World} {q n1 n2 m : Nat} {d : Rd} {rv fv mv : Value} {done : Nat → Bool} {x54 x55 x58 x61 x62 x7 x8 : Value} {W W' : World} (H : StP w q n1 n2 m d rv fv mv done x54 x55 x58 x61 x62 x7 x8 W) (hb : Below W.heap.size W W') : StP w q n1 n2 m d rv fv mv done x54 x55 x58 x61 x62 x7 x8 W' :=
  ⟨⟨⟨H.c.1.1.trans (hb.mono H.c.1.1.size), H.c.1.2.1, Nat.lt_of_lt_of_le H.c.1.2.2 hb.size⟩, hb.on H.c.2.1, hb.on H.c.2.2.1, hb.on H.c.2.2.2⟩, fun h => (H.d2 h).grow hb, H.d3, fun h => (H.d6 h).grow hb, fun h => (H.d9 h).grow hb, H.d10, fun h => (H.d11 h).grow hb, fun h => (H.d12 h).grow hb, fun h => ⟨(H.d13 h).1, (H.d13 h).2.grow hb⟩, fun h => ⟨(H.d14 h).1, (H.d14 h).2.grow hb⟩⟩
/-- what lies there behind the cloning -/
structure GT (w : World) (q qo qm n1 n2 m : Nat) (d : Rd) (rv fv mv ro fo mo : Value) (W : World) : Prop where
  be : Below w.heap.size w W
  c0 : W.cell? ⟨q, 0, none⟩ = some rv
  c1 : W.cell? ⟨q + 1, 0, none⟩ = some fv
  c2 : W.cell? ⟨q + 1, 1, none⟩ = some mv
  o0 : W.cell? ⟨qo, 0, none⟩ = some ro
  m0 : W.cell? ⟨qm, 0, none⟩ = some fo
  m1 : W.cell? ⟨qm, 1, none⟩ = some mo
  r : RS W.heap.size W ro n1 (spans d.r)
  f : RS W.heap.size W fo n2 (spans d.f)
  m : RS W.heap.size W mo m (ints d.m)
theorem GT.grow {w : World} {q qo qm n1 n2 m : Nat} {d : Rd} {rv fv mv ro fo mo : Value} {W W' : World} (h : GT w q qo qm n1 n2 m d rv fv mv ro fo mo W) (hb : Below W.heap.size W W') : GT w q qo qm n1 n2 m d rv fv mv ro fo mo W' :=
  ⟨h.be.trans (hb.mono h.be.size), hb.on h.c0, hb.on h.c1, hb.on h.c2, hb.on h.o0, hb.on h.m0, hb.on h.m1, RS.on h.r hb, RS.on h.f hb, RS.on h.m hb⟩
theorem RowsI.rows {S : Nat} {W : World} {v : Value} {Ls : List (List Int)} (h : RowsI S W v Ls) : RowsR W v Ls := by
  obtain ⟨vs, h1, h2⟩ := h
  obtain ⟨a, c, rfl, h3⟩ := RS.of_owns h1
  refine ⟨a, c, rfl, fun hn => ?_⟩
  have hvl : vs.length = Ls.length := by have := h1.1; omega
  obtain ⟨b, o, rfl, hlt, h4⟩ := h3 (fun e => hn (List.eq_nil_of_length_eq_zero (by rw [← hvl, e]; rfl)))
  refine ⟨b, o, rfl, hlt, fun k l hk => ?_⟩
  obtain ⟨x, h5, h6⟩ := h2 k l hk
  exact ⟨x, h4 k _ h5, RS.of_owns h6⟩
/-- what Numbers answers, in plain words -/
def NumQ (d : Rd) (L : List (List Int)) (er : Int) : Prop :=
  (d.err ≠ 0 ∧ L = [] ∧ er = d.err) ∨ (d.err = 0 ∧ (∃ k, k < d.m.length ∧ nums d k = []) ∧ L = [] ∧ er = 8) ∨ (d.err = 0 ∧ (∀ k, k < d.m.length → nums d k ≠ []) ∧ L = (List.range d.m.length).map (nums d) ∧ er = 0)
theorem NumAns.q {d : Rd} {S : Nat} {v : Value} {er : Int} {W : World} (h : NumAns d S v er W) : ∃ L, RowsR W v L ∧ NumQ d L er := by
  have h0 : RowsR W (.slice none 0 0) [] := ⟨_, _, rfl, fun h => absurd rfl h⟩
  rcases h with ⟨h1, rfl, rfl⟩ | ⟨h1, h2, rfl, rfl⟩ | ⟨h1, h2, rfl, h3⟩
  · exact ⟨[], h0, .inl ⟨h1, rfl, rfl⟩⟩
  · exact ⟨[], h0, .inr (.inl ⟨h1, h2, rfl, rfl⟩)⟩
  · exact ⟨_, h3.rows, .inr (.inr ⟨h1, h2, rfl, rfl⟩)⟩
theorem NumQ.unique {d : Rd} {L L' : List (List Int)} {er er' : Int} (h : NumQ d L er) (h' : NumQ d L' er') : L = L' ∧ er = er' := by
  rcases h with ⟨h1, rfl, rfl⟩ | ⟨h1, h2, rfl, rfl⟩ | ⟨h1, h2, rfl, rfl⟩
  · rcases h' with ⟨-, rfl, rfl⟩ | ⟨k1, -⟩ | ⟨k1, -⟩
    · exact ⟨rfl, rfl⟩
    all_goals exact absurd k1 h1
  · rcases h' with ⟨k1, -⟩ | ⟨-, -, rfl, rfl⟩ | ⟨-, k2, -⟩
    · exact absurd h1 k1
    · exact ⟨rfl, rfl⟩
    · obtain ⟨k, hk, e⟩ := h2; exact absurd e (k2 k hk)
  · rcases h' with ⟨k1, -⟩ | ⟨-, ⟨k, hk, e⟩, -⟩ | ⟨-, -, rfl, rfl⟩
    · exact absurd h1 k1
    · exact absurd e (h2 k hk)
    · exact ⟨rfl, rfl⟩
theorem NumQ.len {d : Rd} {L : List (List Int)} {er : Int} (h : NumQ d L er) (hr : d.r.length ≤ 45) (hm : d.m.length ≤ 45) : L.length ≤ 1000 ∧ ∀ l ∈ L, l.length ≤ 1000 := by
  rcases h with ⟨-, rfl, -⟩ | ⟨-, -, rfl, -⟩ | ⟨-, -, rfl, -⟩
  · exact ⟨by simp, fun l h => by cases h⟩
  · exact ⟨by simp, fun l h => by cases h⟩
  · refine ⟨by simp; omega, fun l h => ?_⟩
    obtain ⟨k, -, rfl⟩ := List.mem_map.1 h
    have := numsTo_len d k (d.r.length + 1)
    unfold nums
    omega
/-- what Wrong answers, in plain words -/
def WrQ (d : Rd) (L : List Int) (er : Int) : Prop :=
  (d.err ≠ 0 ∧ L = [] ∧ er = d.err) ∨ (d.err = 0 ∧ 0 < total d ∧ L = [] ∧ er = 10) ∨ (d.err = 0 ∧ total d = 0 ∧ L = wrongTo d d.m.length ∧ er = 0)
theorem WrAns.q {d : Rd} {S : Nat} {v : Value} {er : Int} {W : World} (h : WrAns d S v er W) : ∃ L, RS W.heap.size W v L.length (ints L) ∧ WrQ d L er := by
  rcases h with ⟨h1, rfl, rfl⟩ | ⟨h1, h2, rfl, rfl⟩ | ⟨h1, h2, rfl, h3⟩
  · exact ⟨[], RS.nil _ _, .inl ⟨h1, rfl, rfl⟩⟩
  · exact ⟨[], RS.nil _ _, .inr (.inl ⟨h1, h2, rfl, rfl⟩)⟩
  · exact ⟨_, RS.of_owns h3, .inr (.inr ⟨h1, h2, rfl, rfl⟩)⟩
theorem WrQ.unique {d : Rd} {L L' : List Int} {er er' : Int} (h : WrQ d L er) (h' : WrQ d L' er') : L = L' ∧ er = er' := by
  rcases h with ⟨h1, rfl, rfl⟩ | ⟨h1, h2, rfl, rfl⟩ | ⟨h1, h2, rfl, rfl⟩
  · rcases h' with ⟨-, rfl, rfl⟩ | ⟨k1, -⟩ | ⟨k1, -⟩
    · exact ⟨rfl, rfl⟩
    all_goals exact absurd k1 h1
  · rcases h' with ⟨k1, -⟩ | ⟨-, -, rfl, rfl⟩ | ⟨-, k2, -⟩
    · exact absurd h1 k1
    · exact ⟨rfl, rfl⟩
    · omega
  · rcases h' with ⟨k1, -⟩ | ⟨-, k2, -⟩ | ⟨-, -, rfl, rfl⟩
    · exact absurd h1 k1
    · omega
    · exact ⟨rfl, rfl⟩
theorem WrQ.len {d : Rd} {L : List Int} {er : Int} (h : WrQ d L er) (hm : d.m.length ≤ 45) : L.length ≤ 1000 := by
  rcases h with ⟨-, rfl, -⟩ | ⟨-, -, rfl, -⟩ | ⟨-, -, rfl, -⟩
  · simp
  · simp
  · have := wrongTo_len d d.m.length; omega
theorem read_form (d : Rd) : ∃ n er : Int, readAns d = .tuple #[.int .i64 n, .int .i64 er] := by
  unfold readAns
  split
  · exact ⟨_, _, rfl⟩
  · exact ⟨_, _, rfl⟩
set_option maxRecDepth 100000 in
set_option maxHeartbeats 8000000 in
theorem stonesl_any {B : Nat} {d : Rd} {rv fv mv : Value} {w : World} (hB : B ≤ w.heap.size) (hr : RS B w rv d.r.length (spans d.r)) (hf : RS B w fv d.f.length (spans d.f)) (hm : RS B w mv d.m.length (ints d.m)) :
    Calls Try.prog 4 #[.agg #[rv], .agg #[fv, mv]] w fun e w' => e = .returned (.bool true) ∧ Below w.heap.size w w' := by
  have HR := Lib.hid (And.intro hB (And.intro hr (And.intro hf hm)))
  obtain ⟨ra, rc, rfl, -⟩ := hr
  obtain ⟨fa, fc, rfl, -⟩ := hf
  obtain ⟨ma, mc, rfl, -⟩ := hm
  obtain ⟨rl, hrl⟩ : ∃ x, x = d.r.length := ⟨_, rfl⟩
  obtain ⟨fl, hfl⟩ : ∃ x, x = d.f.length := ⟨_, rfl⟩
  obtain ⟨ml, hml⟩ : ∃ x, x = d.m.length := ⟨_, rfl⟩
  have HRA : Hid (RS B w (.slice ra rl rc) d.r.length (spans d.r) ∧ RS B w (.slice fa fl fc) d.f.length (spans d.f) ∧ RS B w (.slice ma ml mc) d.m.length (ints d.m)) := Lib.hid ⟨by rw [hrl]; exact HR.out.2.1, by rw [hfl]; exact HR.out.2.2.1, by rw [hml]; exact HR.out.2.2.2⟩
  have HN := Lib.hid (And.intro hrl (And.intro hfl hml))
  rw [← hrl, ← hfl, ← hml]
  have HMB : Hid (Below w.heap.size w ((w.alloc (.cells #[.slice ra rl rc] 41)).alloc (.cells #[.slice fa fl fc, .slice ma ml mc] 43))) := Lib.hid (((Below.refl _ w).alloc (Nat.le_refl _) _).alloc (by simp) _)
  have HM : Hid (((w.alloc (.cells #[.slice ra rl rc] 41)).alloc (.cells #[.slice fa fl fc, .slice ma ml mc] 43)).cell? ⟨w.heap.size, 0, none⟩ = some (.slice ra rl rc) ∧ ((w.alloc (.cells #[.slice ra rl rc] 41)).alloc (.cells #[.slice fa fl fc, .slice ma ml mc] 43)).cell? ⟨w.heap.size + 1, 0, none⟩ = some (.slice fa fl fc) ∧ ((w.alloc (.cells #[.slice ra rl rc] 41)).alloc (.cells #[.slice fa fl fc, .slice ma ml mc] 43)).cell? ⟨w.heap.size + 1, 1, none⟩ = some (.slice ma ml mc)) := Lib.hid (by refine ⟨?_, ?_, ?_⟩ <;> simp [go_sem])
  clear hB hrl hfl hml
  go_enter Try.func4, Try.ntmps4
  go_upto_region 1 with (fail)
  obtain ⟨q, hq⟩ : ∃ q, q = w.heap.size := ⟨_, rfl⟩
  rw [← hq] at HM
  simp only [← hq]
  have HQ0 := Lib.hid hq
  clear hq
  generalize ((w.alloc (.cells #[.slice ra rl rc] 41)).alloc (.cells #[.slice fa fl fc, .slice ma ml mc] 43)) = w1 at HM HMB ⊢
  obtain ⟨k0, k1, k2⟩ := HM.out
  clear HM
  have hC : (fun W => W.cell? ⟨q, 0, none⟩ = some (.slice ra rl rc) ∧ W.cell? ⟨q + 1, 0, none⟩ = some (.slice fa fl fc) ∧ W.cell? ⟨q + 1, 1, none⟩ = some (.slice ma ml mc)) w1.drew := ⟨by simpa using k0, by simpa using k1, by simpa using k2⟩
  replace HMB : Hid (Below w.heap.size w w1.drew) := Lib.hid HMB.out.drew
  clear k0 k1 k2
  generalize hW0 : w1.drew = w2 at hC HMB
  refine Lim.regC' (fun W => W.cell? ⟨q, 0, none⟩ = some (.slice ra rl rc) ∧ W.cell? ⟨q + 1, 0, none⟩ = some (.slice fa fl fc) ∧ W.cell? ⟨q + 1, 1, none⟩ = some (.slice ma ml mc)) [] #[false, false, false, false, false, false, false, false] (by kernel_rfl) rfl ?_
  rw [hW0]; clear hW0
  refine Lim.stepR 0 (fun _ => trivial) rfl (by kernel_rfl) (fun _ _ _ _ h => h) hC rfl ?_; apply Exists.intro; refine ⟨?_, ?_⟩
  · rintro w ⟨r0, r1, r2⟩; go_simp; try with_reducible rfl
  simp only [Act.put, List.setIfInBounds_toArray, List.set_cons_succ, List.set_cons_zero]
  refine Lim.stepR 1 (fun _ => trivial) rfl (by kernel_rfl) (fun _ _ _ _ h => h) hC rfl ?_; apply Exists.intro; refine ⟨?_, ?_⟩
  · rintro w ⟨r0, r1, r2⟩; go_simp; try with_reducible rfl
  simp only [Act.put, List.setIfInBounds_toArray, List.set_cons_succ, List.set_cons_zero]
  refine Lim.stepR 2 (fun _ => trivial) rfl (by kernel_rfl) (fun _ _ _ _ h => h) hC rfl ?_; apply Exists.intro; refine ⟨?_, ?_⟩
  · rintro w ⟨r0, r1, r2⟩; go_simp; try with_reducible rfl
  simp only [Act.put, List.setIfInBounds_toArray, List.set_cons_succ, List.set_cons_zero]
  refine Lim.stepR 3 (fun _ => trivial) rfl (by kernel_rfl) (fun _ _ _ _ h => h) hC rfl ?_; apply Exists.intro; refine ⟨?_, ?_⟩
  · rintro w ⟨r0, r1, r2⟩; go_simp; try with_reducible rfl
  simp only [Act.put, List.setIfInBounds_toArray, List.set_cons_succ, List.set_cons_zero]
  refine Lim.stepR 4 (fun _ => trivial) rfl (by kernel_rfl) (fun _ _ _ _ h => h) hC rfl ?_; apply Exists.intro; refine ⟨?_, ?_⟩
  · rintro w ⟨r0, r1, r2⟩; go_simp; try with_reducible rfl
  simp only [Act.put, List.setIfInBounds_toArray, List.set_cons_succ, List.set_cons_zero]
  refine Lim.stepR 5 (fun _ => trivial) rfl (by kernel_rfl) (fun _ _ _ _ h => h) hC rfl ?_; apply Exists.intro; refine ⟨?_, ?_⟩
  · rintro w ⟨r0, r1, r2⟩; go_simp; try with_reducible rfl
  simp only [Act.put, List.setIfInBounds_toArray, List.set_cons_succ, List.set_cons_zero]
  refine Lim.stepR 6 (fun _ => trivial) rfl (by kernel_rfl) (fun _ _ _ _ h => h) hC rfl ?_; apply Exists.intro; refine ⟨?_, ?_⟩
  · rintro w ⟨r0, r1, r2⟩; go_simp; try with_reducible rfl
  simp only [Act.put, List.setIfInBounds_toArray, List.set_cons_succ, List.set_cons_zero]
  refine Lim.stepR 7 (fun _ => trivial) rfl (by kernel_rfl) (fun _ _ _ _ h => h) hC rfl ?_; apply Exists.intro; refine ⟨?_, ?_⟩
  · rintro w ⟨r0, r1, r2⟩; go_simp; try with_reducible rfl
  simp only [Act.put, List.setIfInBounds_toArray, List.set_cons_succ, List.set_cons_zero]
  refine Lim.stepD (by kernel_rfl) ?_
  obtain ⟨k0, k1, k2⟩ := hC
  have HQ2 : Hid (w.heap.size ≤ q ∧ q + 1 < w2.heap.size) := Lib.hid ⟨by rw [HQ0.out]; exact Nat.le_refl _, World.block_lt_of_cell? _ _ k1⟩
  by_cases h1 : 45 < rl
  · have d1 : decide (45 < rl) = true := decide_eq_true h1
    have d1' : decide ((45 : Int) < (rl : Int)) = true := decide_eq_true (by omega)
    go_wp2_with fail
    refine (awake_any _).mono ?_
    rintro e w3 ⟨rfl, hb2⟩
    have HB2 : Hid (Below w.heap.size w w3) := Lib.hid (HMB.out.trans (hb2.mono HMB.out.size))
    clear hb2
    go_wp2
    go_ret
    exact ⟨rfl, HB2.out⟩
  · have d1 : decide (45 < rl) = false := decide_eq_false h1
    have d1' : decide ((45 : Int) < (rl : Int)) = false := decide_eq_false (by omega)
    by_cases h2 : 45 < ml
    · have d2 : decide (45 < ml) = true := decide_eq_true h2
      have d2' : decide ((45 : Int) < (ml : Int)) = true := decide_eq_true (by omega)
      go_wp2_with fail
      refine (awake_any _).mono ?_
      rintro e w3 ⟨rfl, hb2⟩
      have HB2 : Hid (Below w.heap.size w w3) := Lib.hid (HMB.out.trans (hb2.mono HMB.out.size))
      clear hb2
      go_wp2
      go_ret
      exact ⟨rfl, HB2.out⟩
    · have d2 : decide (45 < ml) = false := decide_eq_false h2
      have d2' : decide ((45 : Int) < (ml : Int)) = false := decide_eq_false (by omega)
      by_cases h3 : 45 < fl
      · have d3 : decide (45 < fl) = true := decide_eq_true h3
        have d3' : decide ((45 : Int) < (fl : Int)) = true := decide_eq_true (by omega)
        go_wp2_with fail
        refine (awake_any _).mono ?_
        rintro e w3 ⟨rfl, hb2⟩
        have HB2 : Hid (Below w.heap.size w w3) := Lib.hid (HMB.out.trans (hb2.mono HMB.out.size))
        clear hb2
        go_wp2
        go_ret
        exact ⟨rfl, HB2.out⟩
      · have d3 : decide (45 < fl) = false := decide_eq_false h3
        have d3' : decide ((45 : Int) < (fl : Int)) = false := decide_eq_false (by omega)
        by_cases hn : (8 < rl ∧ rl < 40) ∨ (5 < ml ∧ ml ≤ 40)
        · by_cases h4 : 8 < rl
          · have d4 : decide (8 < rl) = true := decide_eq_true h4
            have d4' : decide ((8 : Int) < (rl : Int)) = true := decide_eq_true (by omega)
            by_cases h5 : rl < 40
            · have d5 : decide (rl < 40) = true := decide_eq_true h5
              have d5' : decide ((rl : Int) < (40 : Int)) = true := decide_eq_true (by omega)
              go_wp2_with fail
              refine (awake_any _).mono ?_
              rintro e w3 ⟨rfl, hb2⟩
              have HB2 : Hid (Below w.heap.size w w3) := Lib.hid (HMB.out.trans (hb2.mono HMB.out.size))
              clear hb2
              go_wp2
              go_ret
              exact ⟨rfl, HB2.out⟩
            · have d5 : decide (rl < 40) = false := decide_eq_false h5
              have d5' : decide ((rl : Int) < (40 : Int)) = false := decide_eq_false (by omega)
              have d6 : decide (5 < ml) = true := decide_eq_true (by omega)
              have d6' : decide ((5 : Int) < (ml : Int)) = true := decide_eq_true (by omega)
              have d7 : decide (ml ≤ 40) = true := decide_eq_true (by omega)
              have d7' : decide ((ml : Int) ≤ (40 : Int)) = true := decide_eq_true (by omega)
              go_wp2_with fail
              refine (awake_any _).mono ?_
              rintro e w3 ⟨rfl, hb2⟩
              have HB2 : Hid (Below w.heap.size w w3) := Lib.hid (HMB.out.trans (hb2.mono HMB.out.size))
              clear hb2
              go_wp2
              go_ret
              exact ⟨rfl, HB2.out⟩
          · have d4 : decide (8 < rl) = false := decide_eq_false h4
            have d4' : decide ((8 : Int) < (rl : Int)) = false := decide_eq_false (by omega)
            have d6 : decide (5 < ml) = true := decide_eq_true (by omega)
            have d6' : decide ((5 : Int) < (ml : Int)) = true := decide_eq_true (by omega)
            have d7 : decide (ml ≤ 40) = true := decide_eq_true (by omega)
            have d7' : decide ((ml : Int) ≤ (40 : Int)) = true := decide_eq_true (by omega)
            go_wp2_with fail
            refine (awake_any _).mono ?_
            rintro e w3 ⟨rfl, hb2⟩
            have HB2 : Hid (Below w.heap.size w w3) := Lib.hid (HMB.out.trans (hb2.mono HMB.out.size))
            clear hb2
            go_wp2
            go_ret
            exact ⟨rfl, HB2.out⟩
        · have HL : Hid (d.r.length ≤ 1000 ∧ d.f.length ≤ 1000 ∧ d.m.length ≤ 1000) := Lib.hid (by have := HN.out; omega)
          have HN45 : Hid (d.r.length ≤ 45 ∧ d.m.length ≤ 45) := Lib.hid (by have := HN.out; omega)
          have H8 : Hid ((rl ≤ 8 ∨ 40 ≤ rl) ∧ (ml ≤ 5 ∨ 40 < ml)) := Lib.hid (by omega)
          clear h1 h2 h3 hn
          go_upto_region 2 with (fail)
          refine Go.Code.wp_mono (Q := fun ex a W => ex = .normal ∧ W = w2 ∧ ∃ x37 x38 x39 x40 x45 x46 x47 x48, a = { tmps := #[Value.agg #[Value.slice ra rl rc], Value.agg #[Value.slice fa fl fc, Value.slice ma ml mc], Value.pointer (some ⟨q, 0, none⟩), Value.pointer (some ⟨q + 1, 0, none⟩), Value.bool false, Value.int IntKind.i64 rl, Value.int IntKind.i64 ml, undef, undef, undef, undef, undef, undef, undef, undef, undef, undef, Value.pointer (some ⟨q, 0, none⟩), Value.slice ra rl rc, Value.int IntKind.i64 rl, Value.pointer (some ⟨q + 1, 1, none⟩), Value.slice ma ml mc, Value.int IntKind.i64 ml, Value.int IntKind.i64 rl, Value.bool false, Value.bool false, Value.int IntKind.i64 ml, Value.bool false, Value.bool false, Value.bool false, Value.pointer (some ⟨q + 1, 0, none⟩), Value.slice fa fl fc, Value.int IntKind.i64 fl, Value.bool false, Value.bool false, Value.bool false, Value.int IntKind.i64 rl, x37, x38, x39, x40, Value.bool false, Value.bool false, Value.bool false, Value.int IntKind.i64 ml, x45, x46, x47, x48, Value.bool false, Value.bool false, undef, undef, undef, undef, undef, undef, undef, undef, undef, undef, undef, undef, undef, undef, undef, undef, undef, undef, undef, undef, undef, undef, undef, undef, undef, undef, undef, undef, undef, undef, undef, undef, undef, undef, undef, undef, undef, undef, undef, undef, undef, undef, undef, undef, undef, undef, undef, undef, undef, undef, undef, undef, undef, undef, undef, undef, undef, undef, undef, undef, undef, undef, undef, undef, undef, undef, undef, undef, undef, undef, undef, undef, undef, undef, undef, undef, undef, undef, undef, undef, undef, undef, undef, undef, undef, undef, undef, undef, undef, undef, undef, undef, undef, undef, undef, undef, undef, undef, undef, undef, undef, undef, undef, undef, undef, undef, undef, undef, undef], defers := [] }) ?post ?pre
          case pre =>
            by_cases h4 : 8 < rl
            · have d4 : decide (8 < rl) = true := decide_eq_true h4
              have d4' : decide ((8 : Int) < (rl : Int)) = true := decide_eq_true (by omega)
              have d5 : decide (rl < 40) = false := decide_eq_false (by have := H8.out; omega)
              have d5' : decide ((rl : Int) < (40 : Int)) = false := decide_eq_false (by have := H8.out; omega)
              by_cases h6 : 5 < ml
              · have d6 : decide (5 < ml) = true := decide_eq_true h6
                have d6' : decide ((5 : Int) < (ml : Int)) = true := decide_eq_true (by omega)
                have d7 : decide (ml ≤ 40) = false := decide_eq_false (by have := H8.out; omega)
                have d7' : decide ((ml : Int) ≤ (40 : Int)) = false := decide_eq_false (by have := H8.out; omega)
                clear h4 h6
                go_wp2
              · have d6 : decide (5 < ml) = false := decide_eq_false h6
                have d6' : decide ((5 : Int) < (ml : Int)) = false := decide_eq_false (by omega)
                clear h4 h6
                go_wp2
            · have d4 : decide (8 < rl) = false := decide_eq_false h4
              have d4' : decide ((8 : Int) < (rl : Int)) = false := decide_eq_false (by omega)
              by_cases h6 : 5 < ml
              · have d6 : decide (5 < ml) = true := decide_eq_true h6
                have d6' : decide ((5 : Int) < (ml : Int)) = true := decide_eq_true (by omega)
                have d7 : decide (ml ≤ 40) = false := decide_eq_false (by have := H8.out; omega)
                have d7' : decide ((ml : Int) ≤ (40 : Int)) = false := decide_eq_false (by have := H8.out; omega)
                clear h4 h6
                go_wp2
              · have d6 : decide (5 < ml) = false := decide_eq_false h6
                have d6' : decide ((5 : Int) < (ml : Int)) = false := decide_eq_false (by omega)
                clear h4 h6
                go_wp2
          case post =>
            rintro ex a w5 ⟨rfl, rfl, x37, x38, x39, x40, x45, x46, x47, x48, rfl⟩
            dsimp only
            have HKR : Hid (∀ W, Below w.heap.size w W → Calls Try.prog 22 #[.slice ra rl rc] W fun e w' => ∃ v, e = .returned v ∧ w'.ownsRow W.heap.size 25 2 v rl (spans d.r) ∧ Below W.heap.size W w') := Lib.hid fun W hW => by
              have h := kclone_spans (w := W) HL.out.1 (HRA.out.1.below (hW.mono HR.out.1))
              rw [← HN.out.1] at h
              exact h
            have HKF : Hid (∀ W, Below w.heap.size w W → Calls Try.prog 22 #[.slice fa fl fc] W fun e w' => ∃ v, e = .returned v ∧ w'.ownsRow W.heap.size 25 2 v fl (spans d.f) ∧ Below W.heap.size W w') := Lib.hid fun W hW => by
              have h := kclone_spans (w := W) HL.out.2.1 (HRA.out.2.1.below (hW.mono HR.out.1))
              rw [← HN.out.2.1] at h
              exact h
            have HKM : Hid (∀ W, Below w.heap.size w W → Calls Try.prog 16 #[.slice ma ml mc] W fun e w' => ∃ v, e = .returned v ∧ w'.ownsRow W.heap.size 3 1 v ml (ints d.m) ∧ Below W.heap.size W w') := Lib.hid fun W hW => by
              have h := kclone_ints (w := W) HL.out.2.2 (HRA.out.2.2.below (hW.mono HR.out.1))
              rw [← HN.out.2.2] at h
              exact h
            have HE8 : Hid (d.err = 0 → d.r.length ≤ 8 ∧ d.m.length ≤ 5) := Lib.hid (fun he => by
              have h1 := asked_ok he
              have := h1.r39
              have := h1.m40
              have := H8.out
              have := HN.out
              omega)
            have HX1 : Hid (∀ W ro fo mo, RS W.heap.size W ro rl (spans d.r) → (∀ (a : Option Addr) (c : Nat), ro = .slice a rl c → rl ≤ c) → RS W.heap.size W fo fl (spans d.f) → RS W.heap.size W mo ml (ints d.m) → Calls Try.prog 23 #[.agg #[ro], .agg #[fo, mo]] W fun e w' => e = .returned (readAns d) ∧ Below W.heap.size W w') := Lib.hid fun W ro fo mo h1 h2 h3 h4 => by
              rw [HN.out.1] at h1 h2
              rw [HN.out.2.1] at h3
              rw [HN.out.2.2] at h4
              exact Readings_any (Nat.le_refl _) h1 h2 h3 h4
            have HX2 : Hid (∀ W, Below w.heap.size w W → Calls Try.prog 24 #[.slice ra rl rc, .slice fa fl fc, .slice ma ml mc] W fun e w' => e = .returned (readAns d) ∧ Below W.heap.size W w') := Lib.hid fun W hW =>
              rReadings_any (Nat.le_trans HR.out.1 hW.size) (HRA.out.1.below (hW.mono HR.out.1)) (HRA.out.2.1.below (hW.mono HR.out.1)) (HRA.out.2.2.below (hW.mono HR.out.1)) HL.out.2.1 HE8.out
            have HX3 : Hid (∀ W ro fo mo, RS W.heap.size W ro rl (spans d.r) → (∀ (a : Option Addr) (c : Nat), ro = .slice a rl c → rl ≤ c) → RS W.heap.size W fo fl (spans d.f) → PlainV fo → RS W.heap.size W mo ml (ints d.m) → Calls Try.prog 25 #[.agg #[ro], .agg #[fo, mo]] W fun e w' => ∃ v er, e = .returned (.tuple #[v, .int .i64 er]) ∧ Below W.heap.size W w' ∧ NumAns d W.heap.size v er w') := Lib.hid fun W ro fo mo h1 h2 h3 h5 h4 => by
              rw [HN.out.1] at h1 h2
              rw [HN.out.2.1] at h3
              rw [HN.out.2.2] at h4
              exact Numbers_any (Nat.le_refl _) h1 h2 h3 h5 h4
            have HX4 : Hid (∀ W, Below w.heap.size w W → Calls Try.prog 26 #[.slice ra rl rc, .slice fa fl fc, .slice ma ml mc] W fun e w' => ∃ v er, e = .returned (.tuple #[v, .int .i64 er]) ∧ Below W.heap.size W w' ∧ NumAns d W.heap.size v er w') := Lib.hid fun W hW =>
              rNumbers_any (Nat.le_trans HR.out.1 hW.size) (HRA.out.1.below (hW.mono HR.out.1)) (HRA.out.2.1.below (hW.mono HR.out.1)) (HRA.out.2.2.below (hW.mono HR.out.1)) HL.out.2.1 HE8.out
            have HX5 : Hid (∀ W ro fo mo, RS W.heap.size W ro rl (spans d.r) → (∀ (a : Option Addr) (c : Nat), ro = .slice a rl c → rl ≤ c) → RS W.heap.size W fo fl (spans d.f) → RS W.heap.size W mo ml (ints d.m) → Calls Try.prog 28 #[.agg #[ro], .agg #[fo, mo]] W fun e w' => ∃ v er, e = .returned (.tuple #[v, .int .i64 er]) ∧ Below W.heap.size W w' ∧ WrAns d W.heap.size v er w') := Lib.hid fun W ro fo mo h1 h2 h3 h4 => by
              rw [HN.out.1] at h1 h2
              rw [HN.out.2.1] at h3
              rw [HN.out.2.2] at h4
              exact Wrong_any (Nat.le_refl _) h1 h2 h3 h4
            have HX6 : Hid (∀ W, Below w.heap.size w W → Calls Try.prog 29 #[.slice ra rl rc, .slice fa fl fc, .slice ma ml mc] W fun e w' => ∃ v er, e = .returned (.tuple #[v, .int .i64 er]) ∧ Below W.heap.size W w' ∧ WrAns d W.heap.size v er w') := Lib.hid fun W hW =>
              rWrong_any (Nat.le_trans HR.out.1 hW.size) (HRA.out.1.below (hW.mono HR.out.1)) (HRA.out.2.1.below (hW.mono HR.out.1)) (HRA.out.2.2.below (hW.mono HR.out.1)) HL.out.2.1 HE8.out
            have HQR : Hid (∀ W v, Below w.heap.size w W → RS W.heap.size W v rl (spans d.r) → Calls Try.prog 30 #[v, .slice ra rl rc] W fun e w' => e = .returned (.bool true) ∧ Below W.heap.size W w') := Lib.hid fun W v hW h1 => by
              rw [HN.out.1] at h1
              have := equal_spans HL.out.1 h1 (HRA.out.1.below (hW.mono HR.out.1))
              rw [decide_eq_true (rfl : d.r = d.r)] at this
              exact this
            have HQF : Hid (∀ W v, Below w.heap.size w W → RS W.heap.size W v fl (spans d.f) → Calls Try.prog 30 #[v, .slice fa fl fc] W fun e w' => e = .returned (.bool true) ∧ Below W.heap.size W w') := Lib.hid fun W v hW h1 => by
              rw [HN.out.2.1] at h1
              have := equal_spans HL.out.2.1 h1 (HRA.out.2.1.below (hW.mono HR.out.1))
              rw [decide_eq_true (rfl : d.f = d.f)] at this
              exact this
            have HQM : Hid (∀ W v, Below w.heap.size w W → RS W.heap.size W v ml (ints d.m) → Calls Try.prog 20 #[v, .slice ma ml mc] W fun e w' => e = .returned (.bool true) ∧ Below W.heap.size W w') := Lib.hid fun W v hW h1 => by
              rw [HN.out.2.2] at h1
              have := equal_ints HL.out.2.2 h1 (HRA.out.2.2.below (hW.mono HR.out.1))
              rw [decide_eq_true (rfl : d.m = d.m)] at this
              exact this
            have hC : (fun W => W.cell? ⟨q, 0, none⟩ = some (.slice ra rl rc) ∧ W.cell? ⟨q + 1, 0, none⟩ = some (.slice fa fl fc) ∧ W.cell? ⟨q + 1, 1, none⟩ = some (.slice ma ml mc)) w5.drew := ⟨by simpa using k0, by simpa using k1, by simpa using k2⟩
            have HP0 : Hid (StP w q rl fl ml d (.slice ra rl rc) (.slice fa fl fc) (.slice ma ml mc) (fun _ => false) undef undef undef undef undef undef undef w5.drew) := Lib.hid ⟨⟨⟨HMB.out.drew, HQ2.out.1, by simpa using HQ2.out.2⟩, hC.1, hC.2.1, hC.2.2⟩, fun h => (by cases h), fun h => (by cases h), fun h => (by cases h), fun h => (by cases h), fun h => (by cases h), fun h => (by cases h), fun h => (by cases h), fun h => (by cases h), fun h => (by cases h)⟩
            go_wp2_with fail
            clear k0 k1 k2
            refine Lim.regC' (fun W => W.cell? ⟨q, 0, none⟩ = some (.slice ra rl rc) ∧ W.cell? ⟨q + 1, 0, none⟩ = some (.slice fa fl fc) ∧ W.cell? ⟨q + 1, 1, none⟩ = some (.slice ma ml mc)) [] #[false, false, false, false, false, false, false, false, false, false, false, false, false, false, false] (by kernel_rfl) rfl ?_
            refine Lim.stepR 0 (fun _ => trivial) rfl (by kernel_rfl) (fun _ _ _ _ h => h) hC rfl ?_; apply Exists.intro; refine ⟨?_, ?_⟩
            · rintro w ⟨r0, r1, r2⟩; go_simp; try with_reducible rfl
            simp only [Act.put, List.setIfInBounds_toArray, List.set_cons_succ, List.set_cons_zero]
            refine Lim.stepR 1 (fun _ => trivial) rfl (by kernel_rfl) (fun _ _ _ _ h => h) hC rfl ?_; apply Exists.intro; refine ⟨?_, ?_⟩
            · rintro w ⟨r0, r1, r2⟩; go_simp; try with_reducible rfl
            simp only [Act.put, List.setIfInBounds_toArray, List.set_cons_succ, List.set_cons_zero]
            refine Lim.stepR 4 (fun _ => trivial) rfl (by kernel_rfl) (fun _ _ _ _ h => h) hC rfl ?_; apply Exists.intro; refine ⟨?_, ?_⟩
            · rintro w ⟨r0, r1, r2⟩; go_simp; try with_reducible rfl
            simp only [Act.put, List.setIfInBounds_toArray, List.set_cons_succ, List.set_cons_zero]
            refine Lim.stepR 5 (fun _ => trivial) rfl (by kernel_rfl) (fun _ _ _ _ h => h) hC rfl ?_; apply Exists.intro; refine ⟨?_, ?_⟩
            · rintro w ⟨r0, r1, r2⟩; go_simp; try with_reducible rfl
            simp only [Act.put, List.setIfInBounds_toArray, List.set_cons_succ, List.set_cons_zero]
            refine Lim.stepR 7 (fun _ => trivial) rfl (by kernel_rfl) (fun _ _ _ _ h => h) hC rfl ?_; apply Exists.intro; refine ⟨?_, ?_⟩
            · rintro w ⟨r0, r1, r2⟩; go_simp; try with_reducible rfl
            simp only [Act.put, List.setIfInBounds_toArray, List.set_cons_succ, List.set_cons_zero]
            refine Lim.stepR 8 (fun _ => trivial) rfl (by kernel_rfl) (fun _ _ _ _ h => h) hC rfl ?_; apply Exists.intro; refine ⟨?_, ?_⟩
            · rintro w ⟨r0, r1, r2⟩; go_simp; try with_reducible rfl
            simp only [Act.put, List.setIfInBounds_toArray, List.set_cons_succ, List.set_cons_zero]
            clear hC
            refine Lim.parC [2, 3, 6, 9, 10, 11, 12, 13, 14] (fun done act W => ∃ x54 x55 x58 x61 x62 x7 x8, act = { tmps := #[Value.agg #[Value.slice ra rl rc], Value.agg #[Value.slice fa fl fc, Value.slice ma ml mc], Value.pointer (some ⟨q, 0, none⟩), Value.pointer (some ⟨q + 1, 0, none⟩), Value.bool false, Value.int IntKind.i64 rl, Value.int IntKind.i64 ml, x7, x8, undef, undef, undef, undef, undef, undef, undef, undef, Value.pointer (some ⟨q, 0, none⟩), Value.slice ra rl rc, Value.int IntKind.i64 rl, Value.pointer (some ⟨q + 1, 1, none⟩), Value.slice ma ml mc, Value.int IntKind.i64 ml, Value.int IntKind.i64 rl, Value.bool false, Value.bool false, Value.int IntKind.i64 ml, Value.bool false, Value.bool false, Value.bool false, Value.pointer (some ⟨q + 1, 0, none⟩), Value.slice fa fl fc, Value.int IntKind.i64 fl, Value.bool false, Value.bool false, Value.bool false, Value.int IntKind.i64 rl, x37, x38, x39, x40, Value.bool false, Value.bool false, Value.bool false, Value.int IntKind.i64 ml, x45, x46, x47, x48, Value.bool false, Value.bool false, undef, Value.pointer (some ⟨q, 0, none⟩), Value.slice ra rl rc, x54, x55, Value.pointer (some ⟨q + 1, 0, none⟩), Value.slice fa fl fc, x58, Value.pointer (some ⟨q + 1, 1, none⟩), Value.slice ma ml mc, x61, x62, undef, undef, undef, undef, undef, undef, undef, undef, undef, undef, undef, undef, undef, undef, undef, undef, undef, undef, undef, undef, undef, undef, undef, undef, undef, undef, undef, undef, undef, undef, undef, undef, undef, undef, undef, undef, undef, undef, undef, undef, undef, undef, undef, undef, undef, undef, undef, undef, undef, undef, undef, undef, undef, undef, undef, undef, undef, undef, undef, undef, undef, undef, undef, undef, undef, undef, undef, undef, undef, undef, undef, undef, undef, undef, undef, undef, undef, undef, undef, undef, undef, undef, undef, undef, undef, undef, undef, undef, undef, undef, undef, undef, undef, undef, undef, undef, undef], defers := [] } ∧ StP w q rl fl ml d (.slice ra rl rc) (.slice fa fl fc) (.slice ma ml mc) done x54 x55 x58 x61 x62 x7 x8 W) (fun _ => trivial) (by kernel_rfl) rfl rfl ?hC ?step ?fin ⟨_, _, _, _, _, _, _, rfl, HP0.out⟩
            case hC => rintro done act W ⟨_, _, _, _, _, _, _, _, H⟩; exact H.c.2
            case step =>
              intro ii o hi ho done act W hd hdep hS K hK
              obtain ⟨x54, x55, x58, x61, x62, x7, x8, rfl, H⟩ := hS
              simp only [List.mem_cons, List.not_mem_nil, or_false] at hi
              rcases hi with rfl | rfl | rfl | rfl | rfl | rfl | rfl | rfl | rfl
              · cases ho
                have HC := HKR.out W H.c.1.1
                clear hdep
                go_simp
                refine ⟨rfl, (callsIn_wide.2 HC).mono ?_⟩
                rintro e W' ⟨v, rfl, o1, hb⟩
                refine hK _ _ ?_
                have hsz : q ≤ W.heap.size := Nat.le_of_lt (Nat.lt_of_succ_lt H.c.1.2.2)
                replace H := H.grow hb
                obtain ⟨aa, cc, rfl, -⟩ := RS.of_owns o1
                exact ⟨_, _, _, _, _, _, _, rfl, ⟨H.c, fun _ => ⟨aa, cc, rfl, owns_mono o1 hsz⟩, fun h => (by have h := (H.d3 (by simpa using h)).1; rw [hd] at h; cases h), fun h => H.d6 (by simpa using h), fun h => H.d9 (by simpa using h), fun h => H.d10 (by simpa using h), fun h => H.d11 (by simpa using h), fun h => H.d12 (by simpa using h), fun h => H.d13 (by simpa using h), fun h => H.d14 (by simpa using h)⟩⟩
              · cases ho
                have h3 := hdep 2 (by kernel_rfl) (by simp)
                clear hdep
                obtain ⟨aa, cc, rfl, o1⟩ := H.d2 h3
                go_simp
                refine hK _ _ ?_
                exact ⟨_, _, _, _, _, _, _, rfl, ⟨H.c, fun h => H.d2 (by simpa using h), fun _ => ⟨by simpa using h3, rfl⟩, fun h => H.d6 (by simpa using h), fun h => H.d9 (by simpa using h), fun h => H.d10 (by simpa using h), fun h => H.d11 (by simpa using h), fun h => H.d12 (by simpa using h), fun h => (by have h := (H.d13 (by simpa using h)).1.1; rw [hd] at h; cases h), fun h => H.d14 (by simpa using h)⟩⟩
              · cases ho
                have HC := HKF.out W H.c.1.1
                clear hdep
                go_simp
                refine ⟨rfl, (callsIn_wide.2 HC).mono ?_⟩
                rintro e W' ⟨v, rfl, o1, hb⟩
                refine hK _ _ ?_
                have hsz : q ≤ W.heap.size := Nat.le_of_lt (Nat.lt_of_succ_lt H.c.1.2.2)
                replace H := H.grow hb
                obtain ⟨aa, cc, rfl, -⟩ := RS.of_owns o1
                exact ⟨_, _, _, _, _, _, _, rfl, ⟨H.c, fun h => H.d2 (by simpa using h), fun h => H.d3 (by simpa using h), fun _ => ⟨aa, cc, rfl, owns_mono o1 hsz⟩, fun h => H.d9 (by simpa using h), fun h => (by have h := (H.d10 (by simpa using h)).1.1; rw [hd] at h; cases h), fun h => H.d11 (by simpa using h), fun h => H.d12 (by simpa using h), fun h => H.d13 (by simpa using h), fun h => H.d14 (by simpa using h)⟩⟩
              · cases ho
                have HC := HKM.out W H.c.1.1
                clear hdep
                go_simp
                refine ⟨rfl, (callsIn_wide.2 HC).mono ?_⟩
                rintro e W' ⟨v, rfl, o1, hb⟩
                refine hK _ _ ?_
                have hsz : q ≤ W.heap.size := Nat.le_of_lt (Nat.lt_of_succ_lt H.c.1.2.2)
                replace H := H.grow hb
                obtain ⟨aa, cc, rfl, -⟩ := RS.of_owns o1
                exact ⟨_, _, _, _, _, _, _, rfl, ⟨H.c, fun h => H.d2 (by simpa using h), fun h => H.d3 (by simpa using h), fun h => H.d6 (by simpa using h), fun _ => ⟨aa, cc, rfl, owns_mono o1 hsz⟩, fun h => (by have h := (H.d10 (by simpa using h)).1.2; rw [hd] at h; cases h), fun h => H.d11 (by simpa using h), fun h => H.d12 (by simpa using h), fun h => H.d13 (by simpa using h), fun h => H.d14 (by simpa using h)⟩⟩
              · cases ho
                have h3 := hdep 6 (by kernel_rfl) (by simp)
                have h4 := hdep 9 (by kernel_rfl) (by simp)
                clear hdep
                obtain ⟨aa, cc, rfl, o1⟩ := H.d6 h3
                obtain ⟨ab, cb, rfl, o2⟩ := H.d9 h4
                go_simp
                refine hK _ _ ?_
                exact ⟨_, _, _, _, _, _, _, rfl, ⟨H.c, fun h => H.d2 (by simpa using h), fun h => H.d3 (by simpa using h), fun h => H.d6 (by simpa using h), fun h => H.d9 (by simpa using h), fun _ => ⟨by simpa using And.intro h3 h4, rfl⟩, fun h => H.d11 (by simpa using h), fun h => H.d12 (by simpa using h), fun h => H.d13 (by simpa using h), fun h => (by have h := (H.d14 (by simpa using h)).1.1; rw [hd] at h; cases h)⟩⟩
              · cases ho
                clear hdep
                go_simp
                refine hK _ _ ?_
                have hlt := H.c.1.2.2
                have hn := heap_alloc_newP W (.cells #[.slice none 0 0] 41)
                have hb : Below W.heap.size W (W.alloc (.cells #[.slice none 0 0] 41)) := (Below.refl _ W).alloc (Nat.le_refl _) _
                replace H := H.grow hb
                exact ⟨_, _, _, _, _, _, _, rfl, ⟨H.c, fun h => H.d2 (by simpa using h), fun h => H.d3 (by simpa using h), fun h => H.d6 (by simpa using h), fun h => H.d9 (by simpa using h), fun h => H.d10 (by simpa using h), fun _ => ⟨_, _, rfl, hlt, hn⟩, fun h => H.d12 (by simpa using h), fun h => (by have h := (H.d13 (by simpa using h)).1.2; rw [hd] at h; cases h), fun h => H.d14 (by simpa using h)⟩⟩
              · cases ho
                clear hdep
                go_simp
                refine hK _ _ ?_
                have hlt := H.c.1.2.2
                have hn := heap_alloc_newP W (.cells #[.slice none 0 0, .slice none 0 0] 43)
                have hb : Below W.heap.size W (W.alloc (.cells #[.slice none 0 0, .slice none 0 0] 43)) := (Below.refl _ W).alloc (Nat.le_refl _) _
                replace H := H.grow hb
                exact ⟨_, _, _, _, _, _, _, rfl, ⟨H.c, fun h => H.d2 (by simpa using h), fun h => H.d3 (by simpa using h), fun h => H.d6 (by simpa using h), fun h => H.d9 (by simpa using h), fun h => H.d10 (by simpa using h), fun h => H.d11 (by simpa using h), fun _ => ⟨_, _, _, rfl, hlt, hn⟩, fun h => H.d13 (by simpa using h), fun h => (by have h := (H.d14 (by simpa using h)).1.2; rw [hd] at h; cases h)⟩⟩
              · cases ho
                have h1 := hdep 3 (by kernel_rfl) (by simp)
                have h2 := hdep 11 (by kernel_rfl) (by simp)
                clear hdep
                obtain ⟨hh, rfl⟩ := H.d3 h1
                obtain ⟨aa, cc, rfl, o1⟩ := H.d2 hh
                obtain ⟨pb, u0, rfl, hp, hn⟩ := H.d11 h2
                obtain ⟨b0, y0⟩ := box1_of hn
                go_simp
                refine hK _ _ ?_
                exact ⟨_, _, _, _, _, _, _, rfl, ⟨⟨⟨below_set1 _ H.c.1.1 (Nat.le_trans H.c.1.2.1 (Nat.le_of_lt (Nat.lt_of_succ_lt hp))), H.c.1.2.1, Nat.lt_of_lt_of_le H.c.1.2.2 (Nat.le_of_eq (set1_size _).symm)⟩, (cell_set1 _ (by omega)).trans H.c.2.1, (cell_set1 _ (by omega)).trans H.c.2.2.1, (cell_set1 _ (by omega)).trans H.c.2.2.2⟩, fun h => (H.d2 (by simpa using h)).set1 _ hn (by decide), fun h => H.d3 (by simpa using h), fun h => (H.d6 (by simpa using h)).set1 _ hn (by decide), fun h => (H.d9 (by simpa using h)).set1 _ hn (by decide), fun h => H.d10 (by simpa using h), fun h => (H.d11 (by simpa using h)).set1 _ hn, fun h => (H.d12 (by simpa using h)).set1 _ hn, fun _ => ⟨by simpa using And.intro h1 h2, fu1_new hp hn⟩, fun h => ⟨by simpa using (H.d14 (by simpa using h)).1, (H.d14 (by simpa using h)).2.set1 _ hn⟩⟩⟩
              · cases ho
                have h1 := hdep 10 (by kernel_rfl) (by simp)
                have h2 := hdep 12 (by kernel_rfl) (by simp)
                clear hdep
                obtain ⟨⟨hh, hh2⟩, rfl⟩ := H.d10 h1
                obtain ⟨aa, cc, rfl, o1⟩ := H.d6 hh
                obtain ⟨ab, cb, rfl, o2⟩ := H.d9 hh2
                obtain ⟨pb, u0, u1, rfl, hp, hn⟩ := H.d12 h2
                obtain ⟨⟨b0, b1⟩, y0, y1⟩ := box2_of hn
                go_simp
                refine hK _ _ ?_
                exact ⟨_, _, _, _, _, _, _, rfl, ⟨⟨⟨below_set2 _ _ H.c.1.1 (Nat.le_trans H.c.1.2.1 (Nat.le_of_lt (Nat.lt_of_succ_lt hp))), H.c.1.2.1, Nat.lt_of_lt_of_le H.c.1.2.2 (Nat.le_of_eq (set2_size _ _).symm)⟩, (cell_set2 _ _ (by omega)).trans H.c.2.1, (cell_set2 _ _ (by omega)).trans H.c.2.2.1, (cell_set2 _ _ (by omega)).trans H.c.2.2.2⟩, fun h => (H.d2 (by simpa using h)).set2 _ _ hn (by decide), fun h => H.d3 (by simpa using h), fun h => (H.d6 (by simpa using h)).set2 _ _ hn (by decide), fun h => (H.d9 (by simpa using h)).set2 _ _ hn (by decide), fun h => H.d10 (by simpa using h), fun h => (H.d11 (by simpa using h)).set2 _ _ hn, fun h => (H.d12 (by simpa using h)).set2 _ _ hn, fun h => ⟨by simpa using (H.d13 (by simpa using h)).1, (H.d13 (by simpa using h)).2.set2 _ _ hn⟩, fun _ => ⟨by simpa using And.intro h1 h2, fu2_new hp hn⟩⟩⟩
            case fin =>
              rintro done act W hall ⟨x54, x55, x58, x61, x62, x7, x8, rfl, H⟩
              obtain ⟨-, hf1⟩ := H.d13 (hall 13 (by simp))
              obtain ⟨-, hf2⟩ := H.d14 (hall 14 (by simp))
              obtain ⟨-, rfl⟩ := H.d3 (hall 3 (by simp))
              obtain ⟨-, rfl⟩ := H.d10 (hall 10 (by simp))
              obtain ⟨a1, c1, rfl, o1⟩ := H.d2 (hall 2 (by simp))
              obtain ⟨a2, c2, rfl, o2⟩ := H.d6 (hall 6 (by simp))
              obtain ⟨a3, c3, rfl, o3⟩ := H.d9 (hall 9 (by simp))
              obtain ⟨qo, u0, rfl, hp, e1, hn1⟩ := hf1
              obtain ⟨qm, v0, v1, rfl, hq, e2, hn2⟩ := hf2
              simp only [Value.agg.injEq, Array.mk.injEq, List.cons.injEq, and_true] at e1 e2
              obtain rfl := e1
              obtain ⟨rfl, rfl⟩ := e2
              have HPL := Lib.hid (And.intro (plain_own o2).1 (plain_own o1).2)
              have HG : Hid (GT w q qo qm rl fl ml d (.slice ra rl rc) (.slice fa fl fc) (.slice ma ml mc) (.slice a1 rl c1) (.slice a2 fl c2) (.slice a3 ml c3) W) := Lib.hid ⟨H.c.1.1, H.c.2.1, H.c.2.2.1, H.c.2.2.2, (box1_of hn1).1, (box2_of hn2).1.1, (box2_of hn2).1.2, RS.of_owns o1, RS.of_owns o2, RS.of_owns o3⟩
              clear hall hn1 hn2 hp hq o1 o2 o3 H HP0
              dsimp only
              have H45 : Hid (d.r.length ≤ 45 ∧ d.m.length ≤ 45) := HN45
              obtain ⟨rd, re, hre⟩ := read_form d
              rw [hre] at HX1 HX2
              obtain ⟨o0, m0, m1⟩ := And.intro HG.out.o0 (And.intro HG.out.m0 HG.out.m1)
              go_wp2_with fail
              refine (HX1.out _ _ _ _ HG.out.r HPL.out.2 HG.out.f HG.out.m).mono ?_
              rintro e w7 ⟨rfl, hb⟩
              replace HG := Lib.hid (HG.out.grow hb)
              clear hb o0 m0 m1 hre
              obtain ⟨c0, c1, c2⟩ := And.intro HG.out.c0 (And.intro HG.out.c1 HG.out.c2)
              go_wp2_with fail
              refine (HX2.out _ HG.out.be).mono ?_
              rintro e w8 ⟨rfl, hb⟩
              replace HG := Lib.hid (HG.out.grow hb)
              clear hb c0 c1 c2
              have e1 : (rd != rd) = false := by simp
              have e2 : (re != re) = false := by simp
              obtain ⟨o0, m0, m1⟩ := And.intro HG.out.o0 (And.intro HG.out.m0 HG.out.m1)
              go_wp2_with fail
              refine (HX3.out _ _ _ _ HG.out.r HPL.out.2 HG.out.f HPL.out.1 HG.out.m).mono ?_
              rintro e w9 ⟨v9, er9, rfl, hb, hq⟩
              replace HG := Lib.hid (HG.out.grow hb)
              obtain ⟨L9, h9, q9⟩ := hq.q
              have HR9 := Lib.hid (And.intro h9 q9)
              obtain ⟨a9, d9, rfl, -⟩ := h9
              obtain ⟨n9, hn9⟩ : ∃ x, x = L9.length := ⟨_, rfl⟩
              rw [← hn9] at HR9 ⊢
              have HN9 := Lib.hid hn9
              clear hb o0 m0 m1 hq q9 e1 e2 hn9
              obtain ⟨c0, c1, c2⟩ := And.intro HG.out.c0 (And.intro HG.out.c1 HG.out.c2)
              go_wp2_with fail
              refine (HX4.out _ HG.out.be).mono ?_
              rintro e w10 ⟨v10, er10, rfl, hb, hq⟩
              replace HG := Lib.hid (HG.out.grow hb)
              obtain ⟨L10, h10, q10⟩ := hq.q
              obtain ⟨eL, eE⟩ := q10.unique HR9.out.2
              subst eL
              subst eE
              have HR10 := Lib.hid h10
              obtain ⟨a10, d10, rfl, -⟩ := h10
              rw [← HN9.out] at HR10 ⊢
              replace HR9 := Lib.hid (And.intro (HR9.out.1.below hb) HR9.out.2)
              have e2 : (er10 != er10) = false := by simp
              have hlen := q10.len H45.out.1 H45.out.2
              clear hb c0 c1 c2 hq q10
              go_wp2_with fail
              refine (equalall_any hlen.1 hlen.2 HR9.out.1 HR10.out).mono ?_
              rintro e w11 ⟨rfl, hb⟩
              replace HG := Lib.hid (HG.out.grow hb)
              clear hb hlen
              obtain ⟨o0, m0, m1⟩ := And.intro HG.out.o0 (And.intro HG.out.m0 HG.out.m1)
              go_wp2_with fail
              refine (HX5.out _ _ _ _ HG.out.r HPL.out.2 HG.out.f HG.out.m).mono ?_
              rintro e w12 ⟨v12, er12, rfl, hb, hq⟩
              replace HG := Lib.hid (HG.out.grow hb)
              obtain ⟨L12, h12, q12⟩ := hq.q
              have HR12 := Lib.hid (And.intro h12 q12)
              obtain ⟨a12, d12, rfl, -⟩ := h12
              obtain ⟨n12, hn12⟩ : ∃ x, x = L12.length := ⟨_, rfl⟩
              rw [← hn12] at HR12 ⊢
              have HN12 := Lib.hid hn12
              clear hb o0 m0 m1 hq q12 e2 hn12
              obtain ⟨c0, c1, c2⟩ := And.intro HG.out.c0 (And.intro HG.out.c1 HG.out.c2)
              go_wp2_with fail
              refine (HX6.out _ HG.out.be).mono ?_
              rintro e w13 ⟨v13, er13, rfl, hb, hq⟩
              replace HG := Lib.hid (HG.out.grow hb)
              obtain ⟨L13, h13, q13⟩ := hq.q
              obtain ⟨eL, eE⟩ := q13.unique HR12.out.2
              subst eL
              subst eE
              have HR13 := Lib.hid h13
              obtain ⟨a13, d13, rfl, -⟩ := h13
              rw [← HN12.out] at HR13 ⊢
              replace HR12 := Lib.hid (And.intro (RS.on HR12.out.1 hb) HR12.out.2)
              have e2 : (er13 == er13) = true := by simp
              have hlen := q13.len H45.out.2
              have heq := equal_ints (w := w13) hlen (HN12.out ▸ HR12.out.1) (HN12.out ▸ HR13.out)
              rw [decide_eq_true (rfl : L13 = L13), ← HN12.out] at heq
              clear hb c0 c1 c2 hq q13 hlen
              go_wp2_with fail
              refine heq.mono ?_
              clear heq
              rintro e w14 ⟨rfl, hb⟩
              replace HG := Lib.hid (HG.out.grow hb)
              clear hb
              obtain ⟨o0, m0, m1⟩ := And.intro HG.out.o0 (And.intro HG.out.m0 HG.out.m1)
              obtain ⟨c0, c1, c2⟩ := And.intro HG.out.c0 (And.intro HG.out.c1 HG.out.c2)
              go_wp2_with fail
              refine (HQR.out _ _ HG.out.be HG.out.r).mono ?_
              rintro e w15 ⟨rfl, hb⟩
              replace HG := Lib.hid (HG.out.grow hb)
              clear hb o0 m0 m1 c0 c1 c2
              obtain ⟨o0, m0, m1⟩ := And.intro HG.out.o0 (And.intro HG.out.m0 HG.out.m1)
              obtain ⟨c0, c1, c2⟩ := And.intro HG.out.c0 (And.intro HG.out.c1 HG.out.c2)
              go_wp2_with fail
              refine (HQF.out _ _ HG.out.be HG.out.f).mono ?_
              rintro e w16 ⟨rfl, hb⟩
              replace HG := Lib.hid (HG.out.grow hb)
              clear hb o0 m0 m1 c0 c1 c2
              obtain ⟨o0, m0, m1⟩ := And.intro HG.out.o0 (And.intro HG.out.m0 HG.out.m1)
              obtain ⟨c0, c1, c2⟩ := And.intro HG.out.c0 (And.intro HG.out.c1 HG.out.c2)
              go_wp2_with fail
              refine (HQM.out _ _ HG.out.be HG.out.m).mono ?_
              rintro e w17 ⟨rfl, hb⟩
              replace HG := Lib.hid (HG.out.grow hb)
              clear hb o0 m0 m1 c0 c1 c2
              go_wp2_with fail
              refine (awake_any _).mono ?_
              rintro e w18 ⟨rfl, hb⟩
              replace HG := Lib.hid (HG.out.grow hb)
              clear hb
              go_wp2
              go_ret
              exact ⟨rfl, HG.out.be⟩
end Go.Proofs.Ytobmhamdkngehaa
