/-
  Parts of the proof, in the order in which they build: NameG, NameO.
-/
import Derived.Laws.OwnMore
import Derived.Test.YtdgibmgifgdpbaaH31
import Derived.Test.YtdgibmgifgdpbaaH7
import Derived.Test.YtdgibmgifgdpbaaH1
set_option linter.unusedVariables false
set_option linter.unusedSimpArgs false
/-
  RidgeNamed: the ways that are tried: the closure that calls itself.
-/
namespace Go.Proofs.Ytdgibmgifgdpbaa
open Go.RowKit Go.Shelf
open Lim

theorem bools_at' (M : List Bool) (j : Nat) (hj : j < M.length) : (M.map Value.bool)[j]? = some (.bool (M.getD j false)) := by
  rw [List.getElem?_map, List.getD_eq_getElem?_getD, List.getElem?_eq_getElem hj]; rfl
theorem rs_cell {B : Nat} {w : World} {g k cap n : Nat} {xs : List Value} {j : Nat} {u : Value} (h : RS B w (.slice (some ⟨g, 0, none⟩) k cap) n xs) (hj : xs[j]? = some u) : w.cell? ⟨g, j, none⟩ = some u := by
  obtain ⟨a, c, e, h⟩ := h
  obtain ⟨b, off, h1, -, h3⟩ := h (fun e => by rw [e] at hj; cases hj)
  simp only [Value.slice.injEq] at e
  rw [← e.1] at h1
  simp only [Option.some.injEq, Addr.mk.injEq] at h1
  obtain ⟨rfl, rfl, -⟩ := h1
  have := h3 j u hj
  rwa [Nat.zero_add] at this
structure NSt (B : Nat) (w0 : World) (m ha hcap sa scap : Nat) (hs : List (Int × Int)) (ss : List Int) (c0 : Nat) (want : Int) : Prop where
  hB : B ≤ w0.heap.size
  ho : openErr (m : Int) hs ss = 0
  ln : hs.length = ss.length ∧ 0 < ss.length ∧ ss.length ≤ 20
  m : 0 < m ∧ m ≤ 10
  rh : RS B w0 (.slice (some ⟨ha, 0, none⟩) hs.length hcap) hs.length (spans hs)
  rs : RS B w0 (.slice (some ⟨sa, 0, none⟩) ss.length scap) ss.length (ints ss)
  c : c0 < ss.length ∧ ss.getD c0 0 = 0
  w : want = 1 ∨ want = 2
theorem NSt.at {B : Nat} {w0 : World} {m ha hcap sa scap : Nat} {hs : List (Int × Int)} {ss : List Int} {c0 : Nat} {want : Int} (h : NSt B w0 m ha hcap sa scap hs ss c0 want) {W : World} (hb : Below w0.heap.size w0 W) :
    RS W.heap.size W (.slice (some ⟨ha, 0, none⟩) hs.length hcap) hs.length (spans hs) ∧ RS W.heap.size W (.slice (some ⟨sa, 0, none⟩) ss.length scap) ss.length (ints ss) ∧ (∀ j, j < hs.length → W.cell? ⟨ha, j * 2, none⟩ = some (.int .i64 (hs.getD j (0, 0)).1) ∧ W.cell? ⟨ha, j * 2 + 1, none⟩ = some (.int .i64 (hs.getD j (0, 0)).2)) ∧
      ∀ j, j < ss.length → W.cell? ⟨sa, j, none⟩ = some (.int .i64 (ss.getD j 0)) := by
  have h1 := h.rh.below (hb.mono h.hB)
  have h2 := h.rs.below (hb.mono h.hB)
  have hs1 := hb.size
  have hB := h.hB
  refine ⟨h1.mono (by omega), h2.mono (by omega), fun j hj => ⟨rs_cell h1 ?_, rs_cell h1 ?_⟩, fun j hj => rs_cell h2 ?_⟩
  · rw [spans_lo hs j hj, List.getD_eq_getElem?_getD, List.getElem?_eq_getElem hj]; rfl
  · rw [spans_hi hs j hj, List.getD_eq_getElem?_getD, List.getElem?_eq_getElem hj]; rfl
  · rw [ints_at' ss j hj, List.getD_eq_getElem?_getD]
theorem NSp.insp {m : Nat} {hs : List (Int × Int)} {ss : List Int} {P : List Nat} {M : List Bool} {T : List Int} (ho : openErr (m : Int) hs ss = 0) (h : NSp ⟨m, hs, ss⟩ P M T) : InSp hs T := by
  have hn : hs.length = ss.length := (openErr_ok ho).hn
  have hl : T.length = ss.length := h.lt
  refine ⟨by omega, fun c hc => ?_⟩
  have h1 := goodSpan (openErr_zero ho).2.2.1 hc
  rw [h.t c (by show c < ss.length; omega)]
  unfold onlyLow
  rw [low_get, high_get]
  split <;> omega
theorem NSp.insp2 {m : Nat} {hs : List (Int × Int)} {ss : List Int} {P : List Nat} {M : List Bool} {T : List Int} (h : NSp ⟨m, hs, ss⟩ P M T) (ho : openErr (m : Int) hs ss = 0) : T.length = hs.length := (h.insp ho).len
set_option maxRecDepth 20000 in
set_option maxHeartbeats 8000000 in
theorem named_grow {B : Nat} {w0 : World} {m ha hcap sa scap cT b3 b4 b5 b7 pT pM b10 b11 b12 b13 c0 : Nat} {want : Int} {hs : List (Int × Int)} {ss : List Int} (hst : NSt B w0 m ha hcap sa scap hs ss c0 want) :
    ∀ (u : Nat) (P : List Nat) (x : Nat) (left : Int) (fd : Bool) (M : List Bool) (T : List Int) (W : World), NM w0 m hs.length cT b3 b4 b5 b7 pT pM b10 b11 b12 b13 c0 (.slice (some ⟨ha, 0, none⟩) hs.length hcap) (.slice (some ⟨sa, 0, none⟩) ss.length scap) want left fd M T W → NSp ⟨m, hs, ss⟩ P M T → P.Nodup → (∀ y ∈ P, y < ss.length) → ss.length - P.length ≤ u → x < ss.length → ss.getD x 0 = 0 → ¬ x ∈ P → u ≤ 20 → -10000 ≤ left ∧ left ≤ 500 →
      Calls Try.prog 77 #[.int .i64 x, .pointer (some ⟨b11, 0, none⟩), .pointer (some ⟨b12, 0, none⟩), .pointer (some ⟨b3, 0, none⟩), .pointer (some ⟨b10, 0, none⟩), .pointer (some ⟨b7, 0, none⟩), .pointer (some ⟨b4, 0, none⟩), .pointer (some ⟨b5, 0, none⟩), .pointer (some ⟨b13, 0, none⟩)] W (GrowAns w0 m hs.length cT b3 b4 b5 b7 pT pM b10 b11 b12 b13 c0 (.slice (some ⟨ha, 0, none⟩) hs.length hcap) (.slice (some ⟨sa, 0, none⟩) ss.length scap) want ⟨m, hs, ss⟩ u P x left fd) := by
  intro u
  induction u with
  | zero =>
    intro P x left fd M T W hN hP hnd hlt hu hx hz hxP hu20 hl
    exfalso
    have := short_of (n := ss.length) (P := x :: P) (List.nodup_cons.2 ⟨hxP, hnd⟩) (fun c hc => by rcases List.mem_cons.1 hc with rfl | hc; exact hx; exact hlt c hc)
    simp at this
    omega
  | succ u ih =>
    intro P x left fd M T W hN hP hnd hlt hu hx hz hxP hu20 hl
    have IH := Lib.hid ih
    have HS := Lib.hid hst
    have HN := Lib.hid hN
    have HP := Lib.hid hP
    have HX := Lib.hid (And.intro (And.intro hnd hlt) (And.intro hu (And.intro hx (And.intro hz (And.intro hxP (And.intro hu20 hl))))))
    have hl1 := hl.1
    have hl2 := hl.2
    have hx1 : (x : Int) < (hs.length : Int) := by have := hst.ln.1; omega
    have hx2 : x < hs.length := by have := hst.ln.1; omega
    obtain ⟨l1, hll⟩ : ∃ l1, l1 = left - 1 := ⟨_, rfl⟩
    have ewl : IntKind.i64.wrap (left - 1) = l1 := by rw [hll]; exact IntWalk.i64_in _ (by omega)
    have HL1 := Lib.hid hll
    obtain ⟨kl, kf⟩ := one_box hN.x11
    have HN1 := Lib.hid (hN.setL l1)
    clear ih hst hN hP hnd hlt hu hx hz hxP hu20 hl hl1 hl2 hll
    go_enter Try.func77, Try.ntmps77
    go_upto_region 1 with (fail)
    clear kl kf ewl
    generalize W.setCell ⟨b11, 0, none⟩ (.int .i64 l1) = W1 at HN1 ⊢
    clear HN
    obtain ⟨k0, -⟩ := one_box HN1.out.x11
    obtain ⟨k1, -⟩ := one_box HN1.out.x12
    have hearly : fd = true ∨ l1 < 0 → GrowAns w0 m hs.length cT b3 b4 b5 b7 pT pM b10 b11 b12 b13 c0 (.slice (some ⟨ha, 0, none⟩) hs.length hcap) (.slice (some ⟨sa, 0, none⟩) ss.length scap) want ⟨m, hs, ss⟩ (u + 1) P x left fd (.returned (.tuple #[])) W1 := fun hor => by
      have h1 := HL1.out
      refine ⟨l1, fd, M, T, rfl, HN1.out, HP.out, by omega, fun _ => h1, fun h => by push_cast; omega, fun h => h, fun h2 h3 => ?_⟩
      rcases hor with h | h
      · rw [h3] at h; cases h
      · omega
    have HE := Lib.hid hearly
    clear hearly
    cases fd with
    | true =>
      go_wp2_with fail
      exact bodyPost_ret (results_none rfl _ _ _) rfl (HE.out (.inl (by first | rfl | trivial)))
    | false =>
      by_cases hneg : l1 < 0
      · have d0 : decide (l1 < 0) = true := by rw [decide_eq_true_eq]; exact hneg
        have HNG := Lib.hid hneg
        clear hneg
        go_wp2_with fail
        exact bodyPost_ret (results_none rfl _ _ _) rfl (HE.out (.inr HNG.out))
      · have d0 : decide (l1 < 0) = false := by rw [decide_eq_false_iff_not]; exact hneg
        have HNG : Hid (0 ≤ l1) := Lib.hid (by omega)
        clear hneg HE
        go_upto_region 2 with (fail)
        clear k0 k1 d0
        obtain ⟨⟨lo, hi⟩, hlo⟩ : ∃ t, t = hs.getD x (0, 0) := ⟨_, rfl⟩
        have HLO := Lib.hid hlo
        have CF2 : Hid (∀ (left : Int) (fd : Bool) (M : List Bool) (T : List Int) (W : World), NM w0 m hs.length cT b3 b4 b5 b7 pT pM b10 b11 b12 b13 c0 (.slice (some ⟨ha, 0, none⟩) hs.length hcap) (.slice (some ⟨sa, 0, none⟩) ss.length scap) want left fd M T W → (fun W => W.cell? ⟨b10, 0, none⟩ = some (.slice (some ⟨pM, 0, none⟩) hs.length hs.length) ∧ W.cell? ⟨b7, 0, none⟩ = some (.slice (some ⟨pT, 0, none⟩) hs.length cT) ∧ W.cell? ⟨b3, 1, none⟩ = some (.slice (some ⟨ha, 0, none⟩) hs.length hcap) ∧ W.cell? ⟨ha, x * 2, none⟩ = some (.int .i64 lo)) W) := Lib.hid (fun left fd M T W h => by
          have h3 := (cell_of_heap h.x3).1
          have h4 := (HS.out.at h.b).2.2.1 x hx2
          rw [← HLO.out] at h4
          exact ⟨(one_box h.x10).1, (one_box h.x7).1, h3.2.1, h4.1⟩)
        have HN2 := Lib.hid (HN1.out.grow (Below.refl _ W1).drew)
        have HN2L : Hid (M.length = hs.length ∧ T.length = hs.length) := Lib.hid ⟨by have h1 : M.length = ss.length := HP.out.lm; have := HS.out.ln.1; omega, by have h1 : T.length = ss.length := HP.out.lt; have := HS.out.ln.1; omega⟩
        have hC := CF2.out _ _ _ _ _ HN2.out
        clear HN1 hlo
        generalize hW0 : W1.drew = Wa at HN2 hC
        refine Lim.regC' (fun W => W.cell? ⟨b10, 0, none⟩ = some (.slice (some ⟨pM, 0, none⟩) hs.length hs.length) ∧ W.cell? ⟨b7, 0, none⟩ = some (.slice (some ⟨pT, 0, none⟩) hs.length cT) ∧ W.cell? ⟨b3, 1, none⟩ = some (.slice (some ⟨ha, 0, none⟩) hs.length hcap) ∧ W.cell? ⟨ha, x * 2, none⟩ = some (.int .i64 lo)) [] #[false, false, false, false, false, false, false, false, false, false, false, false, false, false] (by kernel_rfl) rfl ?_
        rw [hW0]; clear hW0
        refine Lim.stepR 0 (fun _ => trivial) rfl (by kernel_rfl) (fun _ _ _ _ h => h) hC rfl ?_; apply Exists.intro; refine ⟨?_, ?_⟩
        · rintro w ⟨r1, r2, r3, r4⟩; go_simp; try with_reducible rfl
        simp only [Act.put, List.setIfInBounds_toArray, List.set_cons_succ, List.set_cons_zero]
        refine Lim.stepR 1 (fun _ => trivial) rfl (by kernel_rfl) (fun _ _ _ _ h => h) hC rfl ?_; apply Exists.intro; refine ⟨?_, ?_⟩
        · rintro w ⟨r1, r2, r3, r4⟩; go_simp; try with_reducible rfl
        simp only [Act.put, List.setIfInBounds_toArray, List.set_cons_succ, List.set_cons_zero]
        refine Lim.stepR 2 (fun _ => trivial) rfl (by kernel_rfl) (fun _ _ _ _ h => h) hC rfl ?_; apply Exists.intro; refine ⟨?_, ?_⟩
        · rintro w ⟨r1, r2, r3, r4⟩; go_simp; try with_reducible rfl
        simp only [Act.put, List.setIfInBounds_toArray, List.set_cons_succ, List.set_cons_zero]
        refine Lim.stepR 3 (fun _ => trivial) rfl (by kernel_rfl) (fun _ _ _ _ h => h) hC rfl ?_; apply Exists.intro; refine ⟨?_, ?_⟩
        · rintro w ⟨r1, r2, r3, r4⟩; go_simp; try with_reducible rfl
        simp only [Act.put, List.setIfInBounds_toArray, List.set_cons_succ, List.set_cons_zero]
        refine Lim.stepR 4 (fun _ => trivial) rfl (by kernel_rfl) (fun _ _ _ _ h => h) hC rfl ?_; apply Exists.intro; refine ⟨?_, ?_⟩
        · rintro w ⟨r1, r2, r3, r4⟩; go_simp; try with_reducible rfl
        simp only [Act.put, List.setIfInBounds_toArray, List.set_cons_succ, List.set_cons_zero]
        refine Lim.stepR 5 (fun _ => trivial) rfl (by kernel_rfl) (fun _ _ _ _ h => h) hC rfl ?_; apply Exists.intro; refine ⟨?_, ?_⟩
        · rintro w ⟨r1, r2, r3, r4⟩; go_simp; try with_reducible rfl
        simp only [Act.put, List.setIfInBounds_toArray, List.set_cons_succ, List.set_cons_zero]
        refine Lim.stepR 6 (fun _ => trivial) rfl (by kernel_rfl) (fun _ _ _ _ h => h) hC rfl ?_; apply Exists.intro; refine ⟨?_, ?_⟩
        · rintro w ⟨r1, r2, r3, r4⟩; go_simp; try with_reducible rfl
        simp only [Act.put, List.setIfInBounds_toArray, List.set_cons_succ, List.set_cons_zero]
        refine Lim.stepR 7 (fun _ => trivial) rfl (by kernel_rfl) (fun _ _ _ _ h => h) hC rfl ?_; apply Exists.intro; refine ⟨?_, ?_⟩
        · rintro w ⟨r1, r2, r3, r4⟩; go_simp; try with_reducible rfl
        simp only [Act.put, List.setIfInBounds_toArray, List.set_cons_succ, List.set_cons_zero]
        refine Lim.stepR 8 (fun _ => trivial) rfl (by kernel_rfl) (fun _ _ _ _ h => h) hC rfl ?_; apply Exists.intro; refine ⟨?_, ?_⟩
        · rintro w ⟨r1, r2, r3, r4⟩; go_simp; try with_reducible rfl
        simp only [Act.put, List.setIfInBounds_toArray, List.set_cons_succ, List.set_cons_zero]
        refine Lim.stepR 9 (fun _ => trivial) rfl (by kernel_rfl) (fun _ _ _ _ h => h) hC rfl ?_; apply Exists.intro; refine ⟨?_, ?_⟩
        · rintro w ⟨r1, r2, r3, r4⟩; go_simp; try with_reducible rfl
        simp only [Act.put, List.setIfInBounds_toArray, List.set_cons_succ, List.set_cons_zero]
        refine Lim.stepR 10 (fun _ => trivial) rfl (by kernel_rfl) (fun _ _ _ _ h => h) hC rfl ?_; apply Exists.intro; refine ⟨?_, ?_⟩
        · rintro w ⟨r1, r2, r3, r4⟩; go_simp; try with_reducible rfl
        simp only [Act.put, List.setIfInBounds_toArray, List.set_cons_succ, List.set_cons_zero]
        refine Lim.stepE 11 (fun _ => trivial) rfl (by kernel_rfl) rfl (fun K hK => ?_)   -- E store
        have zz0 := HN2.out.mt.cellAt x (by omega)
        rw [bools_at' _ x (by have := HN2L.out.1; omega)] at zz0
        have zzf := HN2.out.mt.frozenAt x
        have HN3 := Lib.hid (HN2.out.putM x true)
        have hC2 := CF2.out _ _ _ _ _ HN3.out
        go_simp
        refine hK _ _ hC2 ?_
        clear zz0 zzf HN2
        generalize Wa.setCell ⟨pM, x, none⟩ (.bool true) = Wb at HN3 hC2 ⊢
        simp only [Act.put, List.setIfInBounds_toArray, List.set_cons_succ, List.set_cons_zero]
        have HN3L := HN2L
        refine Lim.stepR 12 (fun _ => trivial) rfl (by kernel_rfl) (fun _ _ _ _ h => h) hC2 rfl ?_; apply Exists.intro; refine ⟨?_, ?_⟩
        · rintro w ⟨r1, r2, r3, r4⟩; go_simp; try with_reducible rfl
        simp only [Act.put, List.setIfInBounds_toArray, List.set_cons_succ, List.set_cons_zero]
        refine Lim.stepE 13 (fun _ => trivial) rfl (by kernel_rfl) rfl (fun K hK => ?_)   -- E store
        have zz0 := HN3.out.tr.cellAt x (by omega)
        rw [ints_at' _ x (by have := HN3L.out.2; omega)] at zz0
        have zzf := HN3.out.tr.frozenAt x
        have HN4 := Lib.hid (HN3.out.putT x lo)
        have hC3 := CF2.out _ _ _ _ _ HN4.out
        go_simp
        refine hK _ _ hC3 ?_
        clear zz0 zzf HN3
        generalize Wb.setCell ⟨pT, x, none⟩ (.int .i64 lo) = Wc at HN4 hC3 ⊢
        simp only [Act.put, List.setIfInBounds_toArray, List.set_cons_succ, List.set_cons_zero]
        refine Lim.stepD (by kernel_rfl) ?_
        clear hC3 CF2 HN3L HN2L
        as_aux_lemma =>
          have HP2 : Hid (NSp ⟨m, hs, ss⟩ (x :: P) (M.set x true) (T.set x lo)) := Lib.hid (by
            have h := HP.out.push (x := x) HX.out.2.2.1
            rw [low_get, ← HLO.out] at h
            exact h)
          obtain ⟨M2, hM2⟩ : ∃ M2, M2 = M.set x true := ⟨_, rfl⟩
          obtain ⟨T2, hT2⟩ : ∃ T2, T2 = T.set x lo := ⟨_, rfl⟩
          simp only [← hM2, ← hT2] at HN4 HP2
          clear hM2 hT2 HP HLO
          obtain ⟨⟨g0, g1, g2⟩, -⟩ := cell_of_heap HN4.out.x3
          obtain ⟨k7, -⟩ := one_box HN4.out.x7
          go_wp2_with fail
          refine (Drains_any (B := Wc.heap.size) (wd := m) (T := T2) (Nat.le_refl _) (HS.out.at HN4.out.b).1 (HS.out.at HN4.out.b).2.1 (by have h := RS.of_owns HN4.out.tr; have e : T2.length = hs.length := HP2.out.insp2 HS.out.ho; rw [e]; exact h)).mono ?_
          rintro e Wd ⟨lv, er, l, rfl, hb, hans, ho⟩
          obtain ⟨rfl, pa, pb, hpa, hpb, hl⟩ := drain_len HS.out.ho (HP2.out.insp HS.out.ho) hans
          have hll : l.length = ss.length := by rw [hl]; simp
          obtain ⟨al, lc, rfl⟩ : ∃ g cap, lv = .slice (some ⟨g, 0, none⟩) l.length cap := form_pos (r := ⟨71, 1, lv, l.length, ints l⟩) ho (show 0 < l.length by have := HS.out.ln; omega)
          obtain ⟨wv, hwv⟩ : ∃ wv, wv = l.getD c0 0 := ⟨_, rfl⟩
          have HDR : Hid (Dr ⟨m, hs, ss⟩ (onlyLow ⟨m, hs, ss⟩ (x :: P)) c0 wv) := Lib.hid (Dr.cong (fun y hy => HP2.out.t y hy.1) ⟨pa, pb, hpa, hpb, by
            rw [hwv, hl, List.getD_eq_getElem?_getD, List.getElem?_map, List.getElem?_range HS.out.c.1]; rfl⟩)
          obtain ⟨z, hz⟩ : ∃ z, (wv == want) = z := ⟨_, rfl⟩
          have HZ := Lib.hid hz
          have hcc : (c0 : Int) < (l.length : Int) := by have := HS.out.c; omega
          have hcl : Wd.cell? ⟨al, c0, none⟩ = some (.int .i64 wv) := by
            rw [hwv]
            exact row_cell (r := ⟨71, 1, .slice (some ⟨al, 0, none⟩) l.length lc, l.length, ints l⟩) ho rfl (by show (ints l)[c0]? = _; rw [ints_at' l c0 (by have := HS.out.c; omega), List.getD_eq_getElem?_getD])
          have hal : Wc.heap.size ≤ al := (ho.lt al rfl).1
          have HAL : Hid (al ≠ b12) := Lib.hid (by have := HN4.out.o; omega)
          have HN5 := Lib.hid (HN4.out.grow hb)
          clear hb hans ho hl hll hwv hpa hpb g0 g1 g2 k7 hal HN4
          go_upto_region 4 with (fail)
          have HN6 := Lib.hid (HN5.out.grow (Below.refl _ Wd).drew)
          have hC : (fun W => W.cell? ⟨b12, 0, none⟩ = some (.bool false) ∧ W.cell? ⟨b4, 0, none⟩ = some (.int .i64 c0) ∧ W.cell? ⟨b5, 0, none⟩ = some (.int .i64 want) ∧ W.cell? ⟨al, c0, none⟩ = some (.int .i64 wv)) Wd.drew := ⟨(one_box HN6.out.x12).1, (one_box HN6.out.x4).1, (one_box HN6.out.x5).1, hcl⟩
          clear HN5 hcl
          generalize hW0 : Wd.drew = Wd1 at HN6 hC
          refine Lim.regC' (fun W => W.cell? ⟨b12, 0, none⟩ = some (.bool false) ∧ W.cell? ⟨b4, 0, none⟩ = some (.int .i64 c0) ∧ W.cell? ⟨b5, 0, none⟩ = some (.int .i64 want) ∧ W.cell? ⟨al, c0, none⟩ = some (.int .i64 wv)) [19] #[false, false, false, false, false, false, false, false, false, false, false, false, false, false, false, false, false, false, false, false] (by kernel_rfl) rfl ?_
          rw [hW0]; clear hW0
          refine Lim.stepR 0 (fun _ => trivial) rfl (by kernel_rfl) (fun _ _ _ _ h => h) hC rfl ?_; apply Exists.intro; refine ⟨?_, ?_⟩
          · rintro w ⟨r1, r2, r3, r4⟩; go_simp; try with_reducible rfl
          simp only [Act.put, List.setIfInBounds_toArray, List.set_cons_succ, List.set_cons_zero]
          refine Lim.stepR 1 (fun _ => trivial) rfl (by kernel_rfl) (fun _ _ _ _ h => h) hC rfl ?_; apply Exists.intro; refine ⟨?_, ?_⟩
          · rintro w ⟨r1, r2, r3, r4⟩; go_simp; try with_reducible rfl
          simp only [Act.put, List.setIfInBounds_toArray, List.set_cons_succ, List.set_cons_zero]
          refine Lim.stepR 2 (fun _ => trivial) rfl (by kernel_rfl) (fun _ _ _ _ h => h) hC rfl ?_; apply Exists.intro; refine ⟨?_, ?_⟩
          · rintro w ⟨r1, r2, r3, r4⟩; go_simp; try with_reducible rfl
          simp only [Act.put, List.setIfInBounds_toArray, List.set_cons_succ, List.set_cons_zero]
          refine Lim.stepR 3 (fun _ => trivial) rfl (by kernel_rfl) (fun _ _ _ _ h => h) hC rfl ?_; apply Exists.intro; refine ⟨?_, ?_⟩
          · rintro w ⟨r1, r2, r3, r4⟩; go_simp; try with_reducible rfl
          simp only [Act.put, List.setIfInBounds_toArray, List.set_cons_succ, List.set_cons_zero]
          refine Lim.stepR 4 (fun _ => trivial) rfl (by kernel_rfl) (fun _ _ _ _ h => h) hC rfl ?_; apply Exists.intro; refine ⟨?_, ?_⟩
          · rintro w ⟨r1, r2, r3, r4⟩; go_simp; try with_reducible rfl
          simp only [Act.put, List.setIfInBounds_toArray, List.set_cons_succ, List.set_cons_zero]
          refine Lim.stepR 5 (fun _ => trivial) rfl (by kernel_rfl) (fun _ _ _ _ h => h) hC rfl ?_; apply Exists.intro; refine ⟨?_, ?_⟩
          · rintro w ⟨r1, r2, r3, r4⟩; go_simp; try with_reducible rfl
          simp only [Act.put, List.setIfInBounds_toArray, List.set_cons_succ, List.set_cons_zero]
          refine Lim.stepR 6 (fun _ => trivial) rfl (by kernel_rfl) (fun _ _ _ _ h => h) hC rfl ?_; apply Exists.intro; refine ⟨?_, ?_⟩
          · rintro w ⟨r1, r2, r3, r4⟩; go_simp; try with_reducible rfl
          simp only [Act.put, List.setIfInBounds_toArray, List.set_cons_succ, List.set_cons_zero]
          refine Lim.stepR 7 (fun _ => trivial) rfl (by kernel_rfl) (fun _ _ _ _ h => h) hC rfl ?_; apply Exists.intro; refine ⟨?_, ?_⟩
          · rintro w ⟨r1, r2, r3, r4⟩; go_simp; try with_reducible rfl
          simp only [Act.put, List.setIfInBounds_toArray, List.set_cons_succ, List.set_cons_zero]
          refine Lim.stepR 8 (fun _ => trivial) rfl (by kernel_rfl) (fun _ _ _ _ h => h) hC rfl ?_; apply Exists.intro; refine ⟨?_, ?_⟩
          · rintro w ⟨r1, r2, r3, r4⟩; go_simp; try with_reducible rfl
          simp only [Act.put, List.setIfInBounds_toArray, List.set_cons_succ, List.set_cons_zero]
          refine Lim.stepR 9 (fun _ => trivial) rfl (by kernel_rfl) (fun _ _ _ _ h => h) hC rfl ?_; apply Exists.intro; refine ⟨?_, ?_⟩
          · rintro w ⟨r1, r2, r3, r4⟩; go_simp; try with_reducible rfl
          simp only [Act.put, List.setIfInBounds_toArray, List.set_cons_succ, List.set_cons_zero]
          refine Lim.stepR 10 (fun _ => trivial) rfl (by kernel_rfl) (fun _ _ _ _ h => h) hC rfl ?_; apply Exists.intro; refine ⟨?_, ?_⟩
          · rintro w ⟨r1, r2, r3, r4⟩; go_simp; try with_reducible rfl
          simp only [Act.put, List.setIfInBounds_toArray, List.set_cons_succ, List.set_cons_zero]
          refine Lim.stepR 11 (fun _ => trivial) rfl (by kernel_rfl) (fun _ _ _ _ h => h) hC rfl ?_; apply Exists.intro; refine ⟨?_, ?_⟩
          · rintro w ⟨r1, r2, r3, r4⟩; go_simp; try with_reducible rfl
          simp only [Act.put, List.setIfInBounds_toArray, List.set_cons_succ, List.set_cons_zero]
          refine Lim.stepR 12 (fun _ => trivial) rfl (by kernel_rfl) (fun _ _ _ _ h => h) hC rfl ?_; apply Exists.intro; refine ⟨?_, ?_⟩
          · rintro w ⟨r1, r2, r3, r4⟩; go_simp; try with_reducible rfl
          simp only [Act.put, List.setIfInBounds_toArray, List.set_cons_succ, List.set_cons_zero]
          refine Lim.stepR 13 (fun _ => trivial) rfl (by kernel_rfl) (fun _ _ _ _ h => h) hC rfl ?_; apply Exists.intro; refine ⟨?_, ?_⟩
          · rintro w ⟨r1, r2, r3, r4⟩; go_simp; try with_reducible rfl
          simp only [Act.put, List.setIfInBounds_toArray, List.set_cons_succ, List.set_cons_zero]
          refine Lim.stepR 14 (fun _ => trivial) rfl (by kernel_rfl) (fun _ _ _ _ h => h) hC rfl ?_; apply Exists.intro; refine ⟨?_, ?_⟩
          · rintro w ⟨r1, r2, r3, r4⟩; go_simp; try with_reducible rfl
          simp only [Act.put, List.setIfInBounds_toArray, List.set_cons_succ, List.set_cons_zero]
          refine Lim.stepR 15 (fun _ => trivial) rfl (by kernel_rfl) (fun _ _ _ _ h => h) hC rfl ?_; apply Exists.intro; refine ⟨?_, ?_⟩
          · rintro w ⟨r1, r2, r3, r4⟩; go_simp; try with_reducible rfl
          simp only [Act.put, List.setIfInBounds_toArray, List.set_cons_succ, List.set_cons_zero]
          refine Lim.stepR 16 (fun _ => trivial) rfl (by kernel_rfl) (fun _ _ _ _ h => h) hC rfl ?_; apply Exists.intro; refine ⟨?_, ?_⟩
          · rintro w ⟨r1, r2, r3, r4⟩; go_simp; try with_reducible rfl
          simp only [Act.put, List.setIfInBounds_toArray, List.set_cons_succ, List.set_cons_zero]
          refine Lim.stepR 17 (fun _ => trivial) rfl (by kernel_rfl) (fun _ _ _ _ h => h) hC rfl ?_; apply Exists.intro; refine ⟨?_, ?_⟩
          · rintro w ⟨r1, r2, r3, r4⟩; go_simp; try with_reducible rfl
          simp only [Act.put, List.setIfInBounds_toArray, List.set_cons_succ, List.set_cons_zero]
          refine Lim.stepR 18 (fun _ => trivial) rfl (by kernel_rfl) (fun _ _ _ _ h => h) hC rfl ?_; apply Exists.intro; refine ⟨?_, ?_⟩
          · rintro w ⟨r1, r2, r3, r4⟩; go_simp; try with_reducible rfl
          simp only [Act.put, List.setIfInBounds_toArray, List.set_cons_succ, List.set_cons_zero]
          refine Lim.stepX 19 (fun _ => trivial) rfl (by kernel_rfl) rfl rfl (fun K hK => ?_)   -- E store
          have zzf := (one_box HN6.out.x12).2
          have HN7 := Lib.hid (HN6.out.setF z)
          go_simp
          refine hK _ _ ?_
          refine Lim.segC (fun _ => True) [] ?_
          clear zzf
          generalize Wd1.setCell ⟨b12, 0, none⟩ (.bool z) = We at HN7 ⊢
          simp only [Act.put, List.setIfInBounds_toArray, List.set_cons_succ, List.set_cons_zero]
          refine Lim.stepD (by kernel_rfl) ?_
          clear hC hcc HN6 HAL hz
          as_aux_lemma =>
            obtain ⟨⟨g0, g1, g2⟩, -⟩ := cell_of_heap HN7.out.x3
            go_wp2_with fail
            clear g0 g1 g2
            go_loopw [60] (fun i W => ∃ (j : Nat) (left2 : Int) (fd2 : Bool) (M3 : List Bool) (T3 : List Int), j ≤ ss.length ∧ i = .int .i64 j ∧ Hid (NM w0 m hs.length cT b3 b4 b5 b7 pT pM b10 b11 b12 b13 c0 (.slice (some ⟨ha, 0, none⟩) hs.length hcap) (.slice (some ⟨sa, 0, none⟩) ss.length scap) want left2 fd2 M3 T3 W) ∧ Hid (NSp ⟨m, hs, ss⟩ (x :: P) M3 T3) ∧
              Hid (left2 ≤ l1 ∧ - (20 * (u : Int)) - (j : Int) ≤ left2 ∧ (z = true → fd2 = true) ∧ (0 ≤ left2 → fd2 = false → ∀ k, k < j → land ⟨m, hs, ss⟩ k → nb ⟨m, hs, ss⟩ x k → ¬ k ∈ x :: P → NoWay ⟨m, hs, ss⟩ (x :: P) c0 want k))) (fun i _ => ss.length - (intOf i).toNat)
            case atStart => exact ⟨0, l1, z, M2, T2, Nat.zero_le _, rfl, HN7, HP2, Lib.hid ⟨Int.le_refl _, by have := HNG.out; omega, fun h => h, fun _ _ k hk => by omega⟩⟩
            case round =>
              as_aux_lemma =>
                clear HN7 HP2
                obtain ⟨j, left2, fd2, M3, T3, hj, rfl, HN, HP, HI⟩ := hrel
                by_cases hlj : j < ss.length
                · have hj1 : (j : Int) < (ss.length : Int) := by omega
                  have hj2 : (j : Int) < 1000 := by have := HS.out.ln; omega
                  have hj3 : j < hs.length := by have := HS.out.ln; omega
                  have hj4 : (j : Int) < (hs.length : Int) := by omega
                  have q0 := (HS.out.at HN.out.b).2.2.2 j hlj
                  obtain ⟨sk, hsk⟩ : ∃ sk, sk = ss.getD j 0 := ⟨_, rfl⟩
                  rw [← hsk] at q0
                  obtain ⟨⟨g0, g1, g2⟩, -⟩ := cell_of_heap HN.out.x3
                  by_cases h0 : sk = 0
                  · subst h0
                    have HSK := Lib.hid hsk
                    clear hsk
                    go_wp2_with fail
                    refine (lbeside_any m x j _ _ wr (by have := HS.out.m; omega) (by have := HX.out.2.2.1; have := HS.out.ln; omega) (by have := HS.out.ln; omega)).mono ?_
                    rintro e Wf ⟨rfl, hb⟩
                    have HN8 := Lib.hid (HN.out.grow hb)
                    obtain ⟨bb, hbb⟩ : ∃ b, b = bes m x j := ⟨_, rfl⟩
                    have HBB := Lib.hid hbb
                    rw [← hbb]
                    clear hb HN hbb q0 g0 g1 g2
                    cases bb with
                    | false =>
                      go_wp2
                      go_roundw
                      case rel => exact ⟨j + 1, left2, fd2, M3, T3, by omega, by go_num, HN8, HP, Lib.hid (by
                        obtain ⟨i1, i2, i3, i4⟩ := HI.out
                        refine ⟨i1, by push_cast; omega, i3, fun h1 h2 k hk hl hn hm => ?_⟩
                        by_cases e : k = j
                        · subst e
                          have h9 := (bes_iff (N := ss.length) HS.out.m.1 (openErr_ok HS.out.ho).dv HX.out.2.2.1 hlj).2 hn
                          rw [← HBB.out] at h9; cases h9
                        · exact i4 h1 h2 k (by omega) hl hn hm)⟩
                      case measure => simp [intOf]; omega
                    | true =>
                      obtain ⟨k10, -⟩ := one_box HN8.out.x10
                      have km : Wf.cell? ⟨pM, j, none⟩ = some (.bool (decide (j ∈ x :: P))) := by
                        rw [HN8.out.mt.cellAt j (by omega), bools_at' _ j (by have h : M3.length = ss.length := HP.out.lm; omega), HP.out.m j hlj]
                      obtain ⟨mm, hmm⟩ : ∃ b, b = decide (j ∈ x :: P) := ⟨_, rfl⟩
                      rw [← hmm] at km
                      have HMM := Lib.hid hmm
                      clear hmm
                      cases mm with
                      | true =>
                        go_wp2
                        go_roundw
                        case rel => exact ⟨j + 1, left2, fd2, M3, T3, by omega, by go_num, HN8, HP, Lib.hid (by
                          obtain ⟨i1, i2, i3, i4⟩ := HI.out
                          refine ⟨i1, by push_cast; omega, i3, fun h1 h2 k hk hl hn hm => ?_⟩
                          by_cases e : k = j
                          · subst e
                            exact absurd (of_decide_eq_true HMM.out.symm) hm
                          · exact i4 h1 h2 k (by omega) hl hn hm)⟩
                        case measure => simp [intOf]; omega
                      | false =>
                        obtain ⟨k13, -⟩ := one_box HN8.out.x13
                        have HJP : Hid (¬ j ∈ x :: P) := Lib.hid (of_decide_eq_false HMM.out.symm)
                        go_wp2_with fail
                        clear k10 km k13
                        refine (IH.out (x :: P) j left2 fd2 M3 T3 Wf HN8.out HP.out (List.nodup_cons.2 ⟨HX.out.2.2.2.2.1, HX.out.1.1⟩) (fun y hy => by rcases List.mem_cons.1 hy with rfl | hy; exact HX.out.2.2.1; exact HX.out.1.2 y hy) (by have := HX.out.2.1; simp only [List.length_cons]; omega) hlj HSK.out.symm HJP.out (by have := HX.out.2.2.2.2.2.1; omega) (by have h1 := HI.out; have h2 := HL1.out; have h3 := HX.out.2.2.2.2.2; omega)).mono ?_
                        rintro e Wg ⟨left3, fd3, M4, T4, rfl, hN4, hP4, h1, h2, h3, h4, h5⟩
                        have HN9 := Lib.hid hN4
                        have HP9 := Lib.hid hP4
                        have HI9 : Hid (left3 ≤ l1 ∧ - (20 * (u : Int)) - ((j + 1 : Nat) : Int) ≤ left3 ∧ (z = true → fd3 = true) ∧ (0 ≤ left3 → fd3 = false → ∀ k, k < j + 1 → land ⟨m, hs, ss⟩ k → nb ⟨m, hs, ss⟩ x k → ¬ k ∈ x :: P → NoWay ⟨m, hs, ss⟩ (x :: P) c0 want k)) := Lib.hid (by
                          obtain ⟨i1, i2, i3, i4⟩ := HI.out
                          refine ⟨by omega, ?_, fun h => h4 (i3 h), fun g1 g2 k hk hl hn hm => ?_⟩
                          · push_cast
                            rcases Int.lt_or_le 0 left2 with hp | hp
                            · have := h3 hp; omega
                            · have := h2 hp; omega
                          · have f2 : fd2 = false := by
                              cases hh : fd2 with
                              | false => rfl
                              | true => have := h4 hh; rw [g2] at this; cases this
                            by_cases e : k = j
                            · subst e; exact h5 g1 g2
                            · exact i4 (by omega) f2 k (by omega) hl hn hm)
                        clear hN4 hP4 h1 h2 h3 h4 h5 HN8 HP HI
                        go_wp2
                        go_roundw
                        case rel => exact ⟨j + 1, left3, fd3, M4, T4, by omega, by go_num, HN9, HP9, HI9⟩
                        case measure => simp [intOf]; omega
                  · have z0 : (sk == 0) = false := by rw [beq_eq_false_iff_ne]; exact h0
                    have HSK : Hid (¬ ss.getD j 0 = 0) := Lib.hid (by rw [← hsk]; exact h0)
                    clear hsk h0
                    go_wp2
                    go_roundw
                    case rel => exact ⟨j + 1, left2, fd2, M3, T3, by omega, by go_num, HN, HP, Lib.hid (by
                      obtain ⟨i1, i2, i3, i4⟩ := HI.out
                      refine ⟨i1, by push_cast; omega, i3, fun h1 h2 k hk hl hn hm => ?_⟩
                      by_cases e : k = j
                      · subst e; exact absurd hl.2 HSK.out
                      · exact i4 h1 h2 k (by omega) hl hn hm)⟩
                    case measure => simp [intOf]; omega
                · have hjn : j = ss.length := by omega
                  subst hjn
                  obtain ⟨⟨lo, hi⟩, hlo⟩ : ∃ t, t = hs.getD x (0, 0) := ⟨_, rfl⟩
                  have HLO := Lib.hid hlo
                  have CF11 : Hid (∀ (left : Int) (fd : Bool) (M : List Bool) (T : List Int) (W : World), NM w0 m hs.length cT b3 b4 b5 b7 pT pM b10 b11 b12 b13 c0 (.slice (some ⟨ha, 0, none⟩) hs.length hcap) (.slice (some ⟨sa, 0, none⟩) ss.length scap) want left fd M T W → (fun W => W.cell? ⟨b10, 0, none⟩ = some (.slice (some ⟨pM, 0, none⟩) hs.length hs.length) ∧ W.cell? ⟨b7, 0, none⟩ = some (.slice (some ⟨pT, 0, none⟩) hs.length cT) ∧ W.cell? ⟨b3, 1, none⟩ = some (.slice (some ⟨ha, 0, none⟩) hs.length hcap) ∧ W.cell? ⟨ha, x * 2 + 1, none⟩ = some (.int .i64 hi)) W) := Lib.hid (fun left fd M T W h => by
                    have h3 := (cell_of_heap h.x3).1
                    have h4 := (HS.out.at h.b).2.2.1 x hx2
                    rw [← HLO.out] at h4
                    exact ⟨(one_box h.x10).1, (one_box h.x7).1, h3.2.1, h4.2⟩)
                  clear hlj hj hlo
                  go_upto_region 11 with (fail)
                  have HN2 := Lib.hid (HN.out.grow (Below.refl _ wr).drew)
                  have HN2L : Hid (M3.length = hs.length ∧ T3.length = hs.length) := Lib.hid ⟨by have h1 : M3.length = ss.length := HP.out.lm; have := HS.out.ln.1; omega, by have h1 : T3.length = ss.length := HP.out.lt; have := HS.out.ln.1; omega⟩
                  have hC := CF11.out _ _ _ _ _ HN2.out
                  clear HN
                  generalize hW0 : wr.drew = Wa at HN2 hC
                  refine Lim.regC' (fun W => W.cell? ⟨b10, 0, none⟩ = some (.slice (some ⟨pM, 0, none⟩) hs.length hs.length) ∧ W.cell? ⟨b7, 0, none⟩ = some (.slice (some ⟨pT, 0, none⟩) hs.length cT) ∧ W.cell? ⟨b3, 1, none⟩ = some (.slice (some ⟨ha, 0, none⟩) hs.length hcap) ∧ W.cell? ⟨ha, x * 2 + 1, none⟩ = some (.int .i64 hi)) [] #[false, false, false, false, false, false, false, false, false, false, false, false, false, false] (by kernel_rfl) rfl ?_
                  rw [hW0]; clear hW0
                  refine Lim.stepR 0 (fun _ => trivial) rfl (by kernel_rfl) (fun _ _ _ _ h => h) hC rfl ?_; apply Exists.intro; refine ⟨?_, ?_⟩
                  · rintro w ⟨r1, r2, r3, r4⟩; go_simp; try with_reducible rfl
                  simp only [Act.put, List.setIfInBounds_toArray, List.set_cons_succ, List.set_cons_zero]
                  refine Lim.stepR 1 (fun _ => trivial) rfl (by kernel_rfl) (fun _ _ _ _ h => h) hC rfl ?_; apply Exists.intro; refine ⟨?_, ?_⟩
                  · rintro w ⟨r1, r2, r3, r4⟩; go_simp; try with_reducible rfl
                  simp only [Act.put, List.setIfInBounds_toArray, List.set_cons_succ, List.set_cons_zero]
                  refine Lim.stepR 2 (fun _ => trivial) rfl (by kernel_rfl) (fun _ _ _ _ h => h) hC rfl ?_; apply Exists.intro; refine ⟨?_, ?_⟩
                  · rintro w ⟨r1, r2, r3, r4⟩; go_simp; try with_reducible rfl
                  simp only [Act.put, List.setIfInBounds_toArray, List.set_cons_succ, List.set_cons_zero]
                  refine Lim.stepR 3 (fun _ => trivial) rfl (by kernel_rfl) (fun _ _ _ _ h => h) hC rfl ?_; apply Exists.intro; refine ⟨?_, ?_⟩
                  · rintro w ⟨r1, r2, r3, r4⟩; go_simp; try with_reducible rfl
                  simp only [Act.put, List.setIfInBounds_toArray, List.set_cons_succ, List.set_cons_zero]
                  refine Lim.stepR 4 (fun _ => trivial) rfl (by kernel_rfl) (fun _ _ _ _ h => h) hC rfl ?_; apply Exists.intro; refine ⟨?_, ?_⟩
                  · rintro w ⟨r1, r2, r3, r4⟩; go_simp; try with_reducible rfl
                  simp only [Act.put, List.setIfInBounds_toArray, List.set_cons_succ, List.set_cons_zero]
                  refine Lim.stepR 5 (fun _ => trivial) rfl (by kernel_rfl) (fun _ _ _ _ h => h) hC rfl ?_; apply Exists.intro; refine ⟨?_, ?_⟩
                  · rintro w ⟨r1, r2, r3, r4⟩; go_simp; try with_reducible rfl
                  simp only [Act.put, List.setIfInBounds_toArray, List.set_cons_succ, List.set_cons_zero]
                  refine Lim.stepR 6 (fun _ => trivial) rfl (by kernel_rfl) (fun _ _ _ _ h => h) hC rfl ?_; apply Exists.intro; refine ⟨?_, ?_⟩
                  · rintro w ⟨r1, r2, r3, r4⟩; go_simp; try with_reducible rfl
                  simp only [Act.put, List.setIfInBounds_toArray, List.set_cons_succ, List.set_cons_zero]
                  refine Lim.stepR 7 (fun _ => trivial) rfl (by kernel_rfl) (fun _ _ _ _ h => h) hC rfl ?_; apply Exists.intro; refine ⟨?_, ?_⟩
                  · rintro w ⟨r1, r2, r3, r4⟩; go_simp; try with_reducible rfl
                  simp only [Act.put, List.setIfInBounds_toArray, List.set_cons_succ, List.set_cons_zero]
                  refine Lim.stepR 8 (fun _ => trivial) rfl (by kernel_rfl) (fun _ _ _ _ h => h) hC rfl ?_; apply Exists.intro; refine ⟨?_, ?_⟩
                  · rintro w ⟨r1, r2, r3, r4⟩; go_simp; try with_reducible rfl
                  simp only [Act.put, List.setIfInBounds_toArray, List.set_cons_succ, List.set_cons_zero]
                  refine Lim.stepR 9 (fun _ => trivial) rfl (by kernel_rfl) (fun _ _ _ _ h => h) hC rfl ?_; apply Exists.intro; refine ⟨?_, ?_⟩
                  · rintro w ⟨r1, r2, r3, r4⟩; go_simp; try with_reducible rfl
                  simp only [Act.put, List.setIfInBounds_toArray, List.set_cons_succ, List.set_cons_zero]
                  refine Lim.stepR 10 (fun _ => trivial) rfl (by kernel_rfl) (fun _ _ _ _ h => h) hC rfl ?_; apply Exists.intro; refine ⟨?_, ?_⟩
                  · rintro w ⟨r1, r2, r3, r4⟩; go_simp; try with_reducible rfl
                  simp only [Act.put, List.setIfInBounds_toArray, List.set_cons_succ, List.set_cons_zero]
                  refine Lim.stepE 11 (fun _ => trivial) rfl (by kernel_rfl) rfl (fun K hK => ?_)   -- E store
                  have zz0 := HN2.out.mt.cellAt x (by omega)
                  rw [bools_at' _ x (by have := HN2L.out.1; omega)] at zz0
                  have zzf := HN2.out.mt.frozenAt x
                  have HN3 := Lib.hid (HN2.out.putM x false)
                  have hC2 := CF11.out _ _ _ _ _ HN3.out
                  go_simp
                  refine hK _ _ hC2 ?_
                  clear zz0 zzf HN2
                  generalize Wa.setCell ⟨pM, x, none⟩ (.bool false) = Wb at HN3 hC2 ⊢
                  simp only [Act.put, List.setIfInBounds_toArray, List.set_cons_succ, List.set_cons_zero]
                  have HN3L := HN2L
                  refine Lim.stepR 12 (fun _ => trivial) rfl (by kernel_rfl) (fun _ _ _ _ h => h) hC2 rfl ?_; apply Exists.intro; refine ⟨?_, ?_⟩
                  · rintro w ⟨r1, r2, r3, r4⟩; go_simp; try with_reducible rfl
                  simp only [Act.put, List.setIfInBounds_toArray, List.set_cons_succ, List.set_cons_zero]
                  refine Lim.stepE 13 (fun _ => trivial) rfl (by kernel_rfl) rfl (fun K hK => ?_)   -- E store
                  have zz0 := HN3.out.tr.cellAt x (by omega)
                  rw [ints_at' _ x (by have := HN3L.out.2; omega)] at zz0
                  have zzf := HN3.out.tr.frozenAt x
                  have HN4 := Lib.hid (HN3.out.putT x hi)
                  have hC3 := CF11.out _ _ _ _ _ HN4.out
                  go_simp
                  refine hK _ _ hC3 ?_
                  clear zz0 zzf HN3
                  generalize Wb.setCell ⟨pT, x, none⟩ (.int .i64 hi) = Wc at HN4 hC3 ⊢
                  simp only [Act.put, List.setIfInBounds_toArray, List.set_cons_succ, List.set_cons_zero]
                  refine Lim.stepD (by kernel_rfl) ?_
                  clear hC3 CF11 HN3L HN2L
                  as_aux_lemma =>
                    go_wp2
                    refine bodyPost_end (results_none rfl _ _ _) rfl ⟨left2, fd2, _, _, rfl, HN4.out, ?_, ?_, ?_, ?_, fun h => (by cases h), fun h1 h2 => ?_⟩
                    · have h := HP.out.pop (x := x) HX.out.2.2.1 HX.out.2.2.2.2.1
                      rw [high_get, ← HLO.out] at h
                      exact h
                    · have h1 := HI.out.1; have h2 := HL1.out; omega
                    · intro h; have h1 := HL1.out; have h2 := HNG.out; omega
                    · intro h; have h1 := HI.out.2.1; have h2 := HS.out.ln; push_cast; omega
                    · refine NoWay.step (fun hd => ?_) (fun k hk hn hm => HI.out.2.2.2 h1 h2 k hk.1 hk hn hm)
                      have e : wv = want := Dr.fun (g := ⟨m, hs, ss⟩) ⟨HS.out.c.1, HS.out.c.2⟩ HDR.out hd
                      have hz1 : z = true := by rw [← HZ.out, e]; simp
                      have := HI.out.2.2.1 hz1
                      rw [h2] at this; cases this
end Go.Proofs.Ytdgibmgifgdpbaa
/-
  RidgeNamed: some way is as low as it can be: the contract of opened.
-/
namespace Go.Proofs.Ytdgibmgifgdpbaa
open Go.RowKit Go.Shelf
open Lim

structure OpM (w : World) (m c0 : Nat) (hv sv : Value) (want : Int) (b4 b5 b7 : Nat) (v : Value) (T : List Int) (W : World) : Prop where
  b : Below w.heap.size w W
  sz : w.heap.size < b4 ∧ b4 < b5 ∧ b5 < b7 ∧ b7 < W.heap.size
  x3 : W.heap[w.heap.size]? = some (.cells #[.int .i64 m, hv, sv] 25 (0, 0))
  x4 : W.heap[b4]? = some (.cells #[.int .i64 c0] 3 (0, 0))
  x5 : W.heap[b5]? = some (.cells #[.int .i64 want] 71 (0, 0))
  x7 : W.heap[b7]? = some (.cells #[v] 23 (0, 0))
  o : W.ownsRow (b7 + 1) 3 1 v T.length (ints T)
theorem OpM.grow {w : World} {m c0 : Nat} {hv sv : Value} {want : Int} {b4 b5 b7 : Nat} {v : Value} {T : List Int} {W W' : World} (H : OpM w m c0 hv sv want b4 b5 b7 v T W) (hb : Below W.heap.size W W') : OpM w m c0 hv sv want b4 b5 b7 v T W' :=
  ⟨H.b.trans (hb.mono H.b.size), (by have := H.sz; have := hb.size; omega), heap_grow H.x3 hb, heap_grow H.x4 hb, heap_grow H.x5 hb, heap_grow H.x7 hb, owns_below H.o hb⟩
theorem OpM.push {w : World} {m c0 : Nat} {hv sv : Value} {want : Int} {b4 b5 b7 : Nat} {v v' : Value} {T : List Int} {x : Int} {W W' : World} (H : OpM w m c0 hv sv want b4 b5 b7 v T W) (ho : W'.ownsRow (b7 + 1) 3 1 v' (T.length + 1) (ints T ++ [.int .i64 x])) (hg : W.grownBy W' v.ownBlock) :
    OpM w m c0 hv sv want b4 b5 b7 v' (T ++ [x]) (W'.setCell ⟨b7, 0, none⟩ v') := by
  have hlo : ∀ r, v.ownBlock = some r → b7 + 1 ≤ r := fun r e => (H.o.lt r e).1
  have hsz := H.sz
  have hb : Below (b7 + 1) W W' := ⟨hg.os, hg.tape, hg.output, hg.size, fun k hk => hg.block k (by omega) (fun e => by have := hlo k e.symm; omega)⟩
  have kept : ∀ {r : Nat} {o : Obj}, W.heap[r]? = some o → r < b7 + 1 → W'.heap[r]? = some o := fun h hr => (hb.block _ hr).trans h
  have x7 := kept H.x7 (by omega)
  have off : ∀ r, r ≠ b7 → (W'.setCell ⟨b7, 0, none⟩ v').heap[r]? = W'.heap[r]? := fun r hr => by rw [Below.heap_setCell _ _ _ r hr]
  have hlo' : ∀ r, v'.ownBlock = some r → b7 + 1 ≤ r := fun r e => (ho.lt r e).1
  refine ⟨(H.b.trans (hb.mono (by omega))).setCell (p := ⟨b7, 0, none⟩) (by show w.heap.size ≤ b7; omega) _, ?_, (off _ (by omega)).trans (kept H.x3 (by omega)), (off _ (by omega)).trans (kept H.x4 (by omega)), (off _ (by omega)).trans (kept H.x5 (by omega)), ?_, ?_⟩
  · have h1 : (W'.setCell ⟨b7, 0, none⟩ v').heap.size = W'.heap.size := by simp [World.setCell]
    have := hg.size; omega
  · rw [heap_setCell_self _ x7]; rfl
  · have e : (T ++ [x]).length = T.length + 1 := by simp
    have e2 : ints (T ++ [x]) = ints T ++ [.int .i64 x] := by simp [ints]
    rw [e, e2]
    exact owned_keep (r := ⟨3, 1, v', T.length + 1, ints T ++ [Value.int .i64 x]⟩) ho (fun r hr => off r (by have := hlo' r hr; omega))
theorem infoBoolO : (Try.prog.info? 4).map (fun i => (i.zero, i.size, i.bytes)) = some (some (.bool false), 1, 1) := by kernel_rfl
theorem falsesO (n : Nat) : (madeCells (Value.bool false).cells (n * 1)).toList = (List.replicate n false).map Value.bool := by
  rw [Nat.mul_one]
  show (madeCells #[Value.bool false] n).toList = _
  rw [toList_madeCells_one]
  simp
/-- the truth with all highest heights, nothing met -/
theorem NSp.begin {m : Nat} {hs : List (Int × Int)} {ss : List Int} (hn : hs.length = ss.length) : NSp ⟨m, hs, ss⟩ [] (List.replicate hs.length false) (hs.map Prod.snd) := by
  refine ⟨by simp [Gd.n, hn], by simp [Gd.n, hn], fun x hx => ?_, fun x hx => ?_⟩
  · have hx : x < ss.length := hx
    rw [List.getD_eq_getElem?_getD, List.getElem?_replicate]
    split <;> simp
  · have hx : x < ss.length := hx
    unfold onlyLow
    rw [if_neg (by simp), high_get, List.getD_eq_getElem?_getD, List.getElem?_map, List.getD_eq_getElem?_getD, List.getElem?_eq_getElem (by omega)]
    rfl
set_option maxRecDepth 20000 in
set_option maxHeartbeats 4000000 in
theorem opened_says {B : Nat} {w : World} {m ha hcap sa scap c0 : Nat} {want : Int} {hs : List (Int × Int)} {ss : List Int} (hst : NSt B w m ha hcap sa scap hs ss c0 want) (hd : ∃ t, Tr ⟨m, hs, ss⟩ t ∧ Dr ⟨m, hs, ss⟩ t c0 want) :
    Calls Try.prog 38 #[.agg #[.int .i64 m, .slice (some ⟨ha, 0, none⟩) hs.length hcap, .slice (some ⟨sa, 0, none⟩) ss.length scap], .int .i64 c0, .int .i64 want] w fun e w' => e = .returned (.bool true) ∧ Below w.heap.size w w' := by
  obtain ⟨i0, hi, hz0, hz1, hz2⟩ := info_parts Try.infoInt
  have HIN := Lib.hid (And.intro hi (And.intro hz0 (And.intro hz1 hz2)))
  clear hi hz0 hz1 hz2
  obtain ⟨i1, hi, hz0, hz1, hz2⟩ := info_parts infoBoolO
  have HIB := Lib.hid (And.intro hi (And.intro hz0 (And.intro hz1 hz2)))
  clear hi hz0 hz1 hz2
  have HS := Lib.hid hst
  have HD := Lib.hid hd
  have HN : Hid (OpM w m c0 (.slice (some ⟨ha, 0, none⟩) hs.length hcap) (.slice (some ⟨sa, 0, none⟩) ss.length scap) want (w.heap.size + 1) (w.heap.size + 1 + 1) (w.heap.size + 1 + 1 + 1) (.slice none 0 0) [] ((((w.alloc (.cells #[.int .i64 m, .slice (some ⟨ha, 0, none⟩) hs.length hcap, .slice (some ⟨sa, 0, none⟩) ss.length scap] 25)).alloc (.cells #[.int .i64 c0] 3)).alloc (.cells #[.int .i64 want] 71)).alloc (.cells #[.slice none 0 0] 23))) := Lib.hid (by
    have B1 : Below (w.alloc (.cells #[.int .i64 m, .slice (some ⟨ha, 0, none⟩) hs.length hcap, .slice (some ⟨sa, 0, none⟩) ss.length scap] 25)).heap.size (w.alloc (.cells #[.int .i64 m, .slice (some ⟨ha, 0, none⟩) hs.length hcap, .slice (some ⟨sa, 0, none⟩) ss.length scap] 25)) ((w.alloc (.cells #[.int .i64 m, .slice (some ⟨ha, 0, none⟩) hs.length hcap, .slice (some ⟨sa, 0, none⟩) ss.length scap] 25)).alloc (.cells #[.int .i64 c0] 3)) := (Below.refl _ _).alloc (Nat.le_refl _) _
    have B2 : Below ((w.alloc (.cells #[.int .i64 m, .slice (some ⟨ha, 0, none⟩) hs.length hcap, .slice (some ⟨sa, 0, none⟩) ss.length scap] 25)).alloc (.cells #[.int .i64 c0] 3)).heap.size ((w.alloc (.cells #[.int .i64 m, .slice (some ⟨ha, 0, none⟩) hs.length hcap, .slice (some ⟨sa, 0, none⟩) ss.length scap] 25)).alloc (.cells #[.int .i64 c0] 3)) (((w.alloc (.cells #[.int .i64 m, .slice (some ⟨ha, 0, none⟩) hs.length hcap, .slice (some ⟨sa, 0, none⟩) ss.length scap] 25)).alloc (.cells #[.int .i64 c0] 3)).alloc (.cells #[.int .i64 want] 71)) := (Below.refl _ _).alloc (Nat.le_refl _) _
    have B3 : Below (((w.alloc (.cells #[.int .i64 m, .slice (some ⟨ha, 0, none⟩) hs.length hcap, .slice (some ⟨sa, 0, none⟩) ss.length scap] 25)).alloc (.cells #[.int .i64 c0] 3)).alloc (.cells #[.int .i64 want] 71)).heap.size (((w.alloc (.cells #[.int .i64 m, .slice (some ⟨ha, 0, none⟩) hs.length hcap, .slice (some ⟨sa, 0, none⟩) ss.length scap] 25)).alloc (.cells #[.int .i64 c0] 3)).alloc (.cells #[.int .i64 want] 71)) ((((w.alloc (.cells #[.int .i64 m, .slice (some ⟨ha, 0, none⟩) hs.length hcap, .slice (some ⟨sa, 0, none⟩) ss.length scap] 25)).alloc (.cells #[.int .i64 c0] 3)).alloc (.cells #[.int .i64 want] 71)).alloc (.cells #[.slice none 0 0] 23)) := (Below.refl _ _).alloc (Nat.le_refl _) _
    have a3 := heap_alloc_new w (.cells #[.int .i64 m, .slice (some ⟨ha, 0, none⟩) hs.length hcap, .slice (some ⟨sa, 0, none⟩) ss.length scap] 25)
    have a4 := heap_alloc_new (w.alloc (.cells #[.int .i64 m, .slice (some ⟨ha, 0, none⟩) hs.length hcap, .slice (some ⟨sa, 0, none⟩) ss.length scap] 25)) (.cells #[.int .i64 c0] 3)
    have a5 := heap_alloc_new ((w.alloc (.cells #[.int .i64 m, .slice (some ⟨ha, 0, none⟩) hs.length hcap, .slice (some ⟨sa, 0, none⟩) ss.length scap] 25)).alloc (.cells #[.int .i64 c0] 3)) (.cells #[.int .i64 want] 71)
    have a7 := heap_alloc_new (((w.alloc (.cells #[.int .i64 m, .slice (some ⟨ha, 0, none⟩) hs.length hcap, .slice (some ⟨sa, 0, none⟩) ss.length scap] 25)).alloc (.cells #[.int .i64 c0] 3)).alloc (.cells #[.int .i64 want] 71)) (.cells #[.slice none 0 0] 23)
    simp only [World.size_alloc] at a4 a5 a7
    exact ⟨((((Below.refl _ w).alloc (Nat.le_refl _) _).alloc (by simp) _).alloc (by simp; omega) _).alloc (by simp; omega) _, (by simp), heap_grow (heap_grow (heap_grow a3 B1) B2) B3, heap_grow (heap_grow a4 B2) B3, heap_grow a5 B3, a7, World.ownsRow_nil _ _ _ _⟩)
  clear hst hd
  go_enter Try.func38, Try.ntmps38
  go_upto_region 2 with (fail)
  generalize (((w.alloc (.cells #[.int .i64 m, .slice (some ⟨ha, 0, none⟩) hs.length hcap, .slice (some ⟨sa, 0, none⟩) ss.length scap] 25)).alloc (.cells #[.int .i64 c0] 3)).alloc (.cells #[.int .i64 want] 71)).alloc (.cells #[.slice none 0 0] 23) = w4 at HN ⊢
  obtain ⟨b7, h7⟩ : ∃ b, b = w.heap.size + 1 + 1 + 1 := ⟨_, rfl⟩
  simp only [← h7] at HN ⊢
  obtain ⟨b5, h5⟩ : ∃ b, b = w.heap.size + 1 + 1 := ⟨_, rfl⟩
  simp only [← h5] at HN ⊢
  obtain ⟨b4, h4⟩ : ∃ b, b = w.heap.size + 1 := ⟨_, rfl⟩
  simp only [← h4] at HN ⊢
  clear h7 h5 h4
  obtain ⟨⟨g0, g1, g2⟩, -⟩ := cell_of_heap HN.out.x3
  go_wp2_with fail
  clear g0 g1 g2
  go_loopw [17] (fun i W => ∃ (k : Nat) (v : Value), k ≤ hs.length ∧ i = .int .i64 k ∧ Hid (OpM w m c0 (.slice (some ⟨ha, 0, none⟩) hs.length hcap) (.slice (some ⟨sa, 0, none⟩) ss.length scap) want b4 b5 b7 v ((hs.map Prod.snd).take k) W)) (fun i _ => hs.length - (intOf i).toNat)
  case atStart => exact ⟨0, _, Nat.zero_le _, rfl, HN⟩
  case round =>
    clear HN
    obtain ⟨k, v, hk, rfl, HN⟩ := hrel
    obtain ⟨va, vc, rfl⟩ : ∃ a cap, v = .slice a ((hs.map Prod.snd).take k).length cap := row_form (r := ⟨3, 1, v, ((hs.map Prod.snd).take k).length, ints ((hs.map Prod.snd).take k)⟩) HN.out.o
    by_cases hlt : k < hs.length
    · obtain ⟨q1, q2⟩ := (HS.out.at HN.out.b).2.2.1 k hlt
      obtain ⟨⟨lo, hi⟩, hx⟩ : ∃ t, t = hs.getD k (0, 0) := ⟨_, rfl⟩
      rw [← hx] at q1 q2
      dsimp only at q1 q2
      have hk1 : (k : Int) < (hs.length : Int) := by omega
      have hk2 : (k : Int) < 1000 := by have := HS.out.ln; omega
      have hts : (hs.map Prod.snd).take (k + 1) = (hs.map Prod.snd).take k ++ [hi] := by
        rw [List.take_succ_eq_append_getElem (by simpa using hlt), List.getElem_map]
        rw [List.getD_eq_getElem?_getD, List.getElem?_eq_getElem hlt] at hx
        have : hs[k] = (lo, hi) := hx.symm
        rw [this]
      have HTS := Lib.hid hts
      have HTL : Hid (((hs.map Prod.snd).take k).length ≤ 100) := Lib.hid (by rw [List.length_take]; have := HS.out.ln; omega)
      obtain ⟨T, hT⟩ : ∃ T, T = (hs.map Prod.snd).take k := ⟨_, rfl⟩
      simp only [← hT] at HN HTS HTL ⊢
      obtain ⟨tl, htl⟩ : ∃ n, n = T.length := ⟨_, rfl⟩
      have HTT := Lib.hid htl
      clear hx hts hT
      go_upto_region 5 with (fail)
      clear q1 q2
      have HN2 := Lib.hid (HN.out.grow ((Below.refl _ wr).alloc (Nat.le_refl _) (.cells #[.int .i64 lo, .int .i64 hi] 54)))
      have hq9 := heap_alloc_new wr (.cells #[.int .i64 lo, .int .i64 hi] 54)
      obtain ⟨q9, hqe⟩ : ∃ q, q = wr.heap.size := ⟨_, rfl⟩
      simp only [← hqe] at hq9 ⊢
      generalize wr.alloc (.cells #[.int .i64 lo, .int .i64 hi] 54) = w5 at HN2 hq9 ⊢
      obtain ⟨⟨k0, k1⟩, -⟩ := two_cells hq9
      obtain ⟨k7, f7⟩ := one_box HN2.out.x7
      have hkx : w5.cell? ⟨b7, 0, none⟩ = some (.slice va T.length vc) := k7
      clear hqe hq9 HN htl
      go_wp2_with (at_builtin; refine wpList_append_own _ rfl _ _ 23 rfl (b7 + 1) 3 i0 (.int .i64 0) 1 8 Try.underlying23 HIN.out.1 HIN.out.2.1 HIN.out.2.2.1 HIN.out.2.2.2 rfl (by decide) _ _ _ rfl (HN2.out.grow ((Below.refl _ w5).alloc (Nat.le_refl _) (.cells #[.int .i64 hi] 3))).o ⟨w5.heap.size, 0, none⟩ 1 1 [.int .i64 hi] rfl rfl (cell_one_new _ _ _) (by simp [Value.oneCell']) (by have := HTL.out; unfold maxLen; omega) (by have := HTL.out; omega) (by have := HN2.out.sz; simp; omega) ?_; intro v' w6 hown3 hgrow _; have HN3 := Lib.hid ((HN2.out.grow ((Below.refl _ w5).alloc (Nat.le_refl _) (.cells #[.int .i64 hi] 3))).push hown3 hgrow); have HK6 := Lib.hid (And.intro hown3 hgrow); obtain ⟨va', vc', rfl⟩ : ∃ a cap, v' = .slice a (T.length + 1) cap := row_form (r := ⟨3, 1, v', T.length + 1, ints T ++ [Value.int .i64 hi]⟩) hown3; have hx7 : w6.heap[b7]? = some (.cells #[.slice va T.length vc] 23 (0, 0)) := (hgrow.block b7 (by have := HN2.out.sz; simp; omega) (fun e => by have := ((HN2.out.grow ((Below.refl _ w5).alloc (Nat.le_refl _) (.cells #[.int .i64 hi] 3))).o.lt b7 e.symm).1; omega)).trans (HN2.out.grow ((Below.refl _ w5).alloc (Nat.le_refl _) (.cells #[.int .i64 hi] 3))).x7; obtain ⟨k6, f6⟩ := one_box hx7; clear hown3 hgrow hx7)
      generalize w6.setCell ⟨b7, 0, none⟩ (.slice va' (T.length + 1) vc') = w7 at HN3 ⊢
      go_roundw
      case rel => exact ⟨k + 1, _, by omega, by go_num, Lib.hid (by rw [HTS.out]; exact HN3.out)⟩
      case measure => simp [intOf]; omega
    · have hkn : k = hs.length := by omega
      subst hkn
      have htk : (hs.map Prod.snd).take hs.length = hs.map Prod.snd := by rw [List.take_of_length_le (by simp)]
      have hlen : (hs.map Prod.snd).length = hs.length := by simp
      rw [htk, hlen] at HN
      obtain ⟨pT, cc, e, -⟩ := row_at (r := ⟨3, 1, .slice va hs.length vc, (hs.map Prod.snd).length, ints (hs.map Prod.snd)⟩) HN.out.o (by show 0 < (hs.map Prod.snd).length; have := HS.out.ln; omega)
      obtain rfl : va = some ⟨pT, 0, none⟩ := by
        have h : Value.slice va hs.length vc = .slice (some ⟨pT, 0, none⟩) (hs.map Prod.snd).length cc := e
        simp only [Value.slice.injEq] at h
        exact h.1
      obtain ⟨k7, -⟩ := one_box HN.out.x7
      have hn20 : hs.length ≤ 20 := by have := HS.out.ln; omega
      have HPT : Hid (b7 < pT ∧ pT < wr.heap.size) := Lib.hid (by have := HN.out.o.lt pT rfl; omega)
      clear htk hlen e hlt hk
      go_upto_region 8 with (refine wpList_make_full _ rfl _ _ 72 rfl (b7 + 1) 4 i1 (.bool false) 1 Try.underlying72 HIB.out.1 HIB.out.2.1 HIB.out.2.2.1 .i64 .i64 _ _ hs.length rfl rfl rfl rfl (by rw [HIB.out.2.2.2]; omega) (by unfold maxLen; omega) (by have := HN.out.sz; omega) ?_; intro w6 hown1 hgr1; rw [falsesO] at hown1; have HM6 := Lib.hid hown1; have HN6 := Lib.hid (HN.out.grow ⟨hgr1.os, hgr1.tape, hgr1.output, hgr1.size, fun k hk => hgr1.block k hk (fun e => by cases e)⟩); have HW6 : Hid (wr.heap.size < w6.heap.size) := Lib.hid ((hown1.lt _ rfl).2); clear hown1 hgr1 k7)
      obtain ⟨pM, hpM⟩ : ∃ p, p = wr.heap.size := ⟨_, rfl⟩
      simp only [← hpM] at HM6 HPT HW6 ⊢
      clear hpM HN
      obtain ⟨b10, h10⟩ : ∃ p, p = w6.heap.size := ⟨_, rfl⟩
      have a10 := heap_alloc_new w6 (.cells #[.slice (some ⟨pM, 0, none⟩) hs.length hs.length] 72)
      have HN7 := Lib.hid (HN6.out.grow ((Below.refl _ w6).alloc (Nat.le_refl _) (.cells #[.slice (some ⟨pM, 0, none⟩) hs.length hs.length] 72)))
      have HM7 := Lib.hid (owns_below HM6.out ((Below.refl _ w6).alloc (Nat.le_refl _) (.cells #[.slice (some ⟨pM, 0, none⟩) hs.length hs.length] 72)))
      have hz7 : (w6.alloc (.cells #[.slice (some ⟨pM, 0, none⟩) hs.length hs.length] 72)).heap.size = b10 + 1 := by rw [h10]; simp
      simp only [← h10] at a10 HW6 ⊢
      generalize w6.alloc (.cells #[.slice (some ⟨pM, 0, none⟩) hs.length hs.length] 72) = w7 at HN7 HM7 a10 hz7 ⊢
      have HA10 := Lib.hid (And.intro a10 hz7)
      clear HN6 HM6 h10 a10 hz7
      go_upto_region 12 with (fail)
      obtain ⟨b13, h13⟩ : ∃ p, p = w7.heap.size + 1 + 1 := ⟨_, rfl⟩
      obtain ⟨b12, h12⟩ : ∃ p, p = w7.heap.size + 1 := ⟨_, rfl⟩
      obtain ⟨b11, h11⟩ : ∃ p, p = w7.heap.size := ⟨_, rfl⟩
      simp only [← h13]
      simp only [← h12]
      simp only [← h11]
      have HNM : Hid (NM w m hs.length vc w.heap.size b4 b5 b7 pT pM b10 b11 b12 b13 c0 (.slice (some ⟨ha, 0, none⟩) hs.length hcap) (.slice (some ⟨sa, 0, none⟩) ss.length scap) want 500 false (List.replicate hs.length false) (hs.map Prod.snd) (((w7.alloc (.cells #[.int .i64 500] 3)).alloc (.cells #[.bool false] 4)).alloc (.cells #[.func (.func 77) #[] #[.pointer (some ⟨b11, 0, none⟩), .pointer (some ⟨b12, 0, none⟩), .pointer (some ⟨w.heap.size, 0, none⟩), .pointer (some ⟨b10, 0, none⟩), .pointer (some ⟨b7, 0, none⟩), .pointer (some ⟨b4, 0, none⟩), .pointer (some ⟨b5, 0, none⟩), .pointer (some ⟨b13, 0, none⟩)]] 127))) := Lib.hid (by
        have B0 : Below w7.heap.size w7 (w7.alloc (.cells #[.int .i64 500] 3)) := (Below.refl _ _).alloc (Nat.le_refl _) _
        have B1 : Below (w7.alloc (.cells #[.int .i64 500] 3)).heap.size (w7.alloc (.cells #[.int .i64 500] 3)) ((w7.alloc (.cells #[.int .i64 500] 3)).alloc (.cells #[.bool false] 4)) := (Below.refl _ _).alloc (Nat.le_refl _) _
        have B2 : Below ((w7.alloc (.cells #[.int .i64 500] 3)).alloc (.cells #[.bool false] 4)).heap.size ((w7.alloc (.cells #[.int .i64 500] 3)).alloc (.cells #[.bool false] 4)) (((w7.alloc (.cells #[.int .i64 500] 3)).alloc (.cells #[.bool false] 4)).alloc (.cells #[.func (.func 77) #[] #[.pointer (some ⟨b11, 0, none⟩), .pointer (some ⟨b12, 0, none⟩), .pointer (some ⟨w.heap.size, 0, none⟩), .pointer (some ⟨b10, 0, none⟩), .pointer (some ⟨b7, 0, none⟩), .pointer (some ⟨b4, 0, none⟩), .pointer (some ⟨b5, 0, none⟩), .pointer (some ⟨b13, 0, none⟩)]] 127)) := (Below.refl _ _).alloc (Nat.le_refl _) _
        have BB : Below w7.heap.size w7 (((w7.alloc (.cells #[.int .i64 500] 3)).alloc (.cells #[.bool false] 4)).alloc (.cells #[.func (.func 77) #[] #[.pointer (some ⟨b11, 0, none⟩), .pointer (some ⟨b12, 0, none⟩), .pointer (some ⟨w.heap.size, 0, none⟩), .pointer (some ⟨b10, 0, none⟩), .pointer (some ⟨b7, 0, none⟩), .pointer (some ⟨b4, 0, none⟩), .pointer (some ⟨b5, 0, none⟩), .pointer (some ⟨b13, 0, none⟩)]] 127)) := (B0.trans (B1.mono (by simp))).trans (B2.mono (by simp; omega))
        have a11 := heap_alloc_new w7 (.cells #[.int .i64 500] 3)
        have a12 := heap_alloc_new (w7.alloc (.cells #[.int .i64 500] 3)) (.cells #[.bool false] 4)
        have a13 := heap_alloc_new ((w7.alloc (.cells #[.int .i64 500] 3)).alloc (.cells #[.bool false] 4)) (.cells #[.func (.func 77) #[] #[.pointer (some ⟨b11, 0, none⟩), .pointer (some ⟨b12, 0, none⟩), .pointer (some ⟨w.heap.size, 0, none⟩), .pointer (some ⟨b10, 0, none⟩), .pointer (some ⟨b7, 0, none⟩), .pointer (some ⟨b4, 0, none⟩), .pointer (some ⟨b5, 0, none⟩), .pointer (some ⟨b13, 0, none⟩)]] 127)
        have hsz : (((w7.alloc (.cells #[.int .i64 500] 3)).alloc (.cells #[.bool false] 4)).alloc (.cells #[.func (.func 77) #[] #[.pointer (some ⟨b11, 0, none⟩), .pointer (some ⟨b12, 0, none⟩), .pointer (some ⟨w.heap.size, 0, none⟩), .pointer (some ⟨b10, 0, none⟩), .pointer (some ⟨b7, 0, none⟩), .pointer (some ⟨b4, 0, none⟩), .pointer (some ⟨b5, 0, none⟩), .pointer (some ⟨b13, 0, none⟩)]] 127)).heap.size = w7.heap.size + 1 + 1 + 1 := by simp
        simp only [World.size_alloc] at a12 a13
        have H := HN7.out.grow BB
        have hA := HA10.out
        have hP := HPT.out
        have hW := HW6.out
        have hz := HN7.out.sz
        have ho : (((w7.alloc (.cells #[.int .i64 500] 3)).alloc (.cells #[.bool false] 4)).alloc (.cells #[.func (.func 77) #[] #[.pointer (some ⟨b11, 0, none⟩), .pointer (some ⟨b12, 0, none⟩), .pointer (some ⟨w.heap.size, 0, none⟩), .pointer (some ⟨b10, 0, none⟩), .pointer (some ⟨b7, 0, none⟩), .pointer (some ⟨b4, 0, none⟩), .pointer (some ⟨b5, 0, none⟩), .pointer (some ⟨b13, 0, none⟩)]] 127)).ownsRow w.heap.size 3 1 (.slice (some ⟨pT, 0, none⟩) hs.length vc) hs.length (ints (hs.map Prod.snd)) := by
          have h := owns_mono H.o (show w.heap.size ≤ b7 + 1 by omega)
          simpa using h
        refine ⟨H.b, by rw [hsz]; omega, H.x3, H.x4, H.x5, H.x7, heap_grow hA.1 BB, ?_, ?_, ?_, ho, owns_mono (owns_below HM7.out BB) (by omega)⟩
        · rw [← h11] at a11; exact heap_grow (heap_grow a11 B1) B2
        · rw [← h12] at a12; exact heap_grow a12 B2
        · rw [← h13] at a13; exact a13)
      generalize ((w7.alloc (.cells #[.int .i64 500] 3)).alloc (.cells #[.bool false] 4)).alloc (.cells #[.func (.func 77) #[] #[.pointer (some ⟨b11, 0, none⟩), .pointer (some ⟨b12, 0, none⟩), .pointer (some ⟨w.heap.size, 0, none⟩), .pointer (some ⟨b10, 0, none⟩), .pointer (some ⟨b7, 0, none⟩), .pointer (some ⟨b4, 0, none⟩), .pointer (some ⟨b5, 0, none⟩), .pointer (some ⟨b13, 0, none⟩)]] 127) = w8 at HNM ⊢
      clear h11 h12 h13 HN7 HM7 HA10 HPT HW6
      obtain ⟨k13, -⟩ := one_box HNM.out.x13
      obtain ⟨k4, -⟩ := one_box HNM.out.x4
      go_wp2_with fail
      clear k13 k4
      refine (named_grow HS.out ss.length [] c0 500 false _ _ w8 HNM.out (NSp.begin HS.out.ln.1) List.nodup_nil (fun y hy => by cases hy) (by simp) HS.out.c.1 HS.out.c.2 (by simp) HS.out.ln.2.2 (by omega)).mono ?_
      rintro e w9 ⟨left', fd', M', T', rfl, hN, -, -, -, -, -, h5⟩
      have HB := Lib.hid hN.b
      have HNO : Hid (¬ (0 ≤ left' ∧ fd' = false)) := Lib.hid (fun h => by
        obtain ⟨t, ht, hdr⟩ := HD.out
        obtain ⟨L, d, h6, h7⟩ := named_way (SpansOk.of HS.out.ho) HS.out.w ht ⟨HS.out.c.1, HS.out.c.2⟩ hdr
        exact h5 h.1 h.2 L d h6 (fun y _ hm => by cases hm) h7)
      obtain ⟨k11, -⟩ := one_box hN.x11
      obtain ⟨k12, -⟩ := one_box hN.x12
      clear h5 hN
      cases fd' with
      | true =>
        go_wp2
        go_ret
        exact ⟨rfl, HB.out⟩
      | false =>
        have hneg : decide (left' < 0) = true := by
          rw [decide_eq_true_eq]
          rcases Int.lt_or_le left' 0 with h | h
          · exact h
          · exact absurd ⟨h, rfl⟩ HNO.out
        go_wp2
        go_ret
        exact ⟨rfl, HB.out⟩
end Go.Proofs.Ytdgibmgifgdpbaa
