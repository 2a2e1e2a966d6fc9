/-
  Parts of the proof, in the order in which they build: QiZ, Eq, KClo.
-/
import Derived.Test.YtohjinbgbfggcaaA8
set_option linter.unusedVariables false
set_option linter.unusedSimpArgs false
/-
  The numbers that each stone can have: the contract of Numbers.
-/
namespace Go.Proofs.Ytohjinbgbfggcaa
open Go.RowKit Go.Shelf
open Lim
attribute [local go_sem] Oper.semAt_some

theorem asked_nm {d : Rd} (h : d.err = 0) : ∀ x ∈ d.m, -1 ≤ x ∧ x ≤ d.r.length := by
  unfold Rd.err at h
  split at h
  · cases h
  split at h
  · cases h
  rename_i h1 h2
  intro x hx
  have h3 : inR x (-1) (d.r.length : Int) = true := by
    cases e : inR x (-1) (d.r.length : Int) with
    | true => rfl
    | false => exact absurd (.inr (.inr (List.any_eq_true.2 ⟨x, hx, by rw [e]; rfl⟩))) h2
  exact inR_iff.1 h3
/-- the first numbers, up to b, that stone k can have -/
def numsTo (d : Rd) (k b : Nat) : List Int := ((List.range b).filter fun y => decide (0 < tabTo d d.m.length 0 k y) && decide (0 < behT d k y)).map Int.ofNat
def nums (d : Rd) (k : Nat) : List Int := numsTo d k (d.r.length + 1)
theorem numsTo_len (d : Rd) (k b : Nat) : (numsTo d k b).length ≤ b := by
  unfold numsTo
  rw [List.length_map]
  exact Nat.le_trans (List.length_filter_le _ _) (by simp)
theorem numsTo_add {d : Rd} {k b : Nat} (h1 : 0 < tabTo d d.m.length 0 k b) (h2 : 0 < behT d k b) : numsTo d k (b + 1) = numsTo d k b ++ [(b : Int)] := by
  unfold numsTo
  rw [List.range_succ, List.filter_append, List.map_append]
  simp [h1, h2]
theorem numsTo_skip {d : Rd} {k b : Nat} (h : ¬ (0 < tabTo d d.m.length 0 k b ∧ 0 < behT d k b)) : numsTo d k (b + 1) = numsTo d k b := by
  unfold numsTo
  rw [List.range_succ, List.filter_append, List.map_append]
  have : (decide (0 < tabTo d d.m.length 0 k b) && decide (0 < behT d k b)) = false := by
    cases e : (decide (0 < tabTo d d.m.length 0 k b) && decide (0 < behT d k b)) with
    | false => rfl
    | true => simp at e; omega
  simp [this]
/-- a list of lists of numbers that the call itself made: read only -/
def RowsI (S : Nat) (W : World) (v : Value) (Ls : List (List Int)) : Prop :=
  ∃ vs : List Value, W.ownsRow S 25 1 v Ls.length vs ∧ ∀ (k : Nat) (l : List Int), Ls[k]? = some l → ∃ x, vs[k]? = some x ∧ W.ownsRow S 3 1 x l.length (ints l)
theorem RowsI.below {S : Nat} {W W' : World} {v : Value} {Ls : List (List Int)} (h : RowsI S W v Ls) (hb : Below W.heap.size W W') : RowsI S W' v Ls :=
  let ⟨vs, h1, h2⟩ := h
  ⟨vs, owns_below h1 hb, fun k l hk => let ⟨x, e, h3⟩ := h2 k l hk; ⟨x, e, owns_below h3 hb⟩⟩
theorem RowsI.mono {S S' : Nat} {W : World} {v : Value} {Ls : List (List Int)} (h : RowsI S W v Ls) (hS : S' ≤ S) : RowsI S' W v Ls :=
  let ⟨vs, h1, h2⟩ := h
  ⟨vs, owns_mono h1 hS, fun k l hk => let ⟨x, e, h3⟩ := h2 k l hk; ⟨x, e, owns_mono h3 hS⟩⟩
theorem RowsI.nil (S : Nat) (W : World) : RowsI S W (.slice none 0 0) [] := ⟨[], ownsRow_zero _ _ _ _, fun k l h => by cases h⟩
/-- rows of two types of elements lie apart -/
theorem owns_apart {W : World} {S S' e e' n n' z z' : Nat} {v v' : Value} {xs xs' : List Value} (h : W.ownsRow S e z v n xs) (h' : W.ownsRow S' e' z' v' n' xs') (he : e ≠ e') : v.ownBlock = none ∨ v.ownBlock ≠ v'.ownBlock := by
  rcases h.2 with ⟨rfl, -⟩ | ⟨g, cap, cur, rfl, -, hg, -⟩
  · exact .inl rfl
  · refine .inr (fun e2 => ?_)
    rcases h'.2 with ⟨rfl, -⟩ | ⟨g', cap', cur', rfl, -, hg', -⟩
    · cases e2
    · have : g = g' := by simpa [Value.ownBlock] using e2
      subst this
      rw [hg] at hg'
      exact he (Obj.cells.inj (Option.some.inj hg')).2.1
/-- one list more -/
theorem RowsI.add {S : Nat} {W W' : World} {v v' x : Value} {Ls : List (List Int)} {vs : List Value} {l : List Int} (h1 : W.ownsRow S 25 1 v Ls.length vs) (h2 : ∀ (k : Nat) (l : List Int), Ls[k]? = some l → ∃ x, vs[k]? = some x ∧ W.ownsRow S 3 1 x l.length (ints l)) (hx : W.ownsRow S 3 1 x l.length (ints l))
    (hown : W'.ownsRow S 25 1 v' (Ls.length + 1) (vs ++ [x])) (hgr : W.grownBy W' v.ownBlock) : RowsI S W' v' (Ls ++ [l]) := by
  refine ⟨vs ++ [x], by rw [List.length_append]; exact hown, fun k l' hk => ?_⟩
  have hlen : vs.length = Ls.length := by have := h1.1; omega
  have kp : ∀ {x' : Value} {l'' : List Int}, W.ownsRow S 3 1 x' l''.length (ints l'') → W'.ownsRow S 3 1 x' l''.length (ints l'') := fun h => h.kept hgr (owns_apart h h1 (by decide))
  by_cases hlt : k < Ls.length
  · rw [List.getElem?_append_left hlt] at hk
    obtain ⟨x', e, h3⟩ := h2 k l' hk
    exact ⟨x', by rw [List.getElem?_append_left (by omega)]; exact e, kp h3⟩
  · have hk' : k = Ls.length := by
      have := (List.getElem?_eq_some_iff.1 hk).1
      simp at this; omega
    subst hk'
    rw [List.getElem?_append_right (Nat.le_refl _), Nat.sub_self] at hk
    obtain rfl : l = l' := by simpa using hk
    exact ⟨x, by rw [List.getElem?_append_right (by omega), hlen, Nat.sub_self]; rfl, kp hx⟩
theorem infoRow : (Try.prog.info? 25).map (fun i => (i.zero, i.size, i.bytes)) = some (some (.slice none 0 0), 1, 24) := by kernel_rfl
/-- what Numbers answers -/
def NumAns (d : Rd) (S : Nat) (v : Value) (er : Int) (W : World) : Prop :=
  (d.err ≠ 0 ∧ er = d.err ∧ v = .slice none 0 0) ∨ (d.err = 0 ∧ (∃ k, k < d.m.length ∧ nums d k = []) ∧ er = 8 ∧ v = .slice none 0 0) ∨
  (d.err = 0 ∧ (∀ k, k < d.m.length → nums d k ≠ []) ∧ er = 0 ∧ RowsI S W v ((List.range d.m.length).map (nums d)))
set_option maxRecDepth 20000 in
set_option maxHeartbeats 2000000 in
theorem Numbers_any {B : Nat} {d : Rd} {rv fv mv : Value} {w : World} (hB : B ≤ w.heap.size) (hr : RS B w rv d.r.length (spans d.r)) (hcap : ∀ a c, rv = .slice a d.r.length c → d.r.length ≤ c) (hf : RS B w fv d.f.length (spans d.f)) (hfp : PlainV fv) (hm : RS B w mv d.m.length (ints d.m)) :
    Calls Try.prog 33 #[.agg #[rv], .agg #[fv, mv]] w fun e w' => ∃ v er, e = .returned (.tuple #[v, .int .i64 er]) ∧ Below w.heap.size w w' ∧ NumAns d w.heap.size v er w' := by
  have HR := Lib.hid (And.intro hB (And.intro hr (And.intro hf hm)))
  obtain ⟨ra, rc, rfl, -⟩ := hr
  have hrc := hcap _ _ rfl
  obtain ⟨fa, fc, rfl, -⟩ := hf
  obtain ⟨ma, mc, rfl, -⟩ := hm
  obtain ⟨rl, hrl⟩ : ∃ x, x = d.r.length := ⟨_, rfl⟩
  obtain ⟨fl, hfl⟩ : ∃ x, x = d.f.length := ⟨_, rfl⟩
  obtain ⟨ml, hml⟩ : ∃ x, x = d.m.length := ⟨_, rfl⟩
  have HL := Lib.hid (And.intro hrl (And.intro hfl hml))
  have HRC := Lib.hid hrc
  have HAK : Hid (∀ W, Below w.heap.size w W → Calls Try.prog 59 #[.agg #[.slice ra rl rc], .agg #[.slice fa fl fc, .slice ma ml mc]] W fun e w' => e = .returned (.int .i64 d.err) ∧ Below W.heap.size W w') := Lib.hid fun W hW => by
    rw [hrl, hfl, hml]
    exact asked_any (Nat.le_trans HR.out.1 hW.size) (HR.out.2.1.below (hW.mono HR.out.1)) (HR.out.2.2.1.below (hW.mono HR.out.1)) (HR.out.2.2.2.below (hW.mono HR.out.1))
  have HAL : Hid (d.err = 0 → ∀ W, Below w.heap.size w W → Calls Try.prog 62 #[.agg #[.slice ra rl rc], .agg #[.slice fa fl fc, .slice ma ml mc]] W fun e w' => e = .returned (.int .i64 (total d)) ∧ Below W.heap.size W w') := Lib.hid fun he W hW => by
    rw [hrl, hfl, hml]
    exact all_any (asked_ok he) (Nat.le_trans HR.out.1 hW.size) (HR.out.2.1.below (hW.mono HR.out.1)) HRC.out (HR.out.2.2.1.below (hW.mono HR.out.1)) (HR.out.2.2.2.below (hW.mono HR.out.1))
  rw [← hrl, ← hfl, ← hml] at HR
  rw [← hrl, ← hfl, ← hml]
  have HM : Hid (Below w.heap.size w ((w.alloc (.cells #[.slice ra rl rc] 87)).alloc (.cells #[.slice fa fl fc, .slice ma ml mc] 90)) ∧ ((w.alloc (.cells #[.slice ra rl rc] 87)).alloc (.cells #[.slice fa fl fc, .slice ma ml mc] 90)).cell? ⟨w.heap.size, 0, none⟩ = some (.slice ra rl rc) ∧ ((w.alloc (.cells #[.slice ra rl rc] 87)).alloc (.cells #[.slice fa fl fc, .slice ma ml mc] 90)).cell? ⟨w.heap.size + 1, 0, none⟩ = some (.slice fa fl fc) ∧ ((w.alloc (.cells #[.slice ra rl rc] 87)).alloc (.cells #[.slice fa fl fc, .slice ma ml mc] 90)).cell? ⟨w.heap.size + 1, 1, none⟩ = some (.slice ma ml mc)) := Lib.hid (by
    refine ⟨((Below.refl _ w).alloc (Nat.le_refl _) _).alloc (by simp) _, ?_, ?_, ?_⟩ <;> simp [go_sem])
  obtain ⟨er, her⟩ : ∃ x, x = d.err := ⟨_, rfl⟩
  rw [← her] at HAK
  have HER := Lib.hid her
  clear hB hrl hfl hml her hcap hrc
  have HAD : Hid (d.err = 0 → ∀ W, Below w.heap.size w W → Calls Try.prog 60 #[.agg #[.slice ra rl rc], .agg #[.slice fa fl fc, .slice ma ml mc]] W fun e w' => ∃ g, e = .returned (.slice (some ⟨g, 0, none⟩) ml ml) ∧ CtM W g ml (tabTo d d.m.length 0) w') := Lib.hid fun he W hW => by
    obtain ⟨e1, e2, e3⟩ := HL.out
    have h1 := HR.out.2.1
    have h2 := HR.out.2.2.1
    have h3 := HR.out.2.2.2
    rw [e1] at h1
    rw [e2] at h2
    rw [e3] at h3
    rw [e1, e2, e3]
    exact rahead_any (asked_ok he) (Nat.le_trans HR.out.1 hW.size) (h1.below (hW.mono HR.out.1)) HRC.out (h2.below (hW.mono HR.out.1)) (h3.below (hW.mono HR.out.1))
  have HBE : Hid (d.err = 0 → ∀ W, Below w.heap.size w W → Calls Try.prog 61 #[.agg #[.slice ra rl rc], .agg #[.slice fa fl fc, .slice ma ml mc]] W fun e w' => ∃ v, e = .returned v ∧ Below W.heap.size W w' ∧ (∃ xs, w'.ownsRow W.heap.size 119 40 v ml xs ∧ ∀ k y, k < ml → y < 40 → xs[k * 40 + y]? = some (.int .i64 (behT d k y)))) := Lib.hid fun he W hW => by
    obtain ⟨e1, e2, e3⟩ := HL.out
    have h1 := HR.out.2.1
    have h2 := HR.out.2.2.1
    have h3 := HR.out.2.2.2
    rw [e1] at h1
    rw [e2] at h2
    rw [e3] at h3
    rw [e1, e2, e3]
    exact behind_any (asked_ok he) (Nat.le_trans HR.out.1 hW.size) (h1.below (hW.mono HR.out.1)) (h2.below (hW.mono HR.out.1)) hfp (h3.below (hW.mono HR.out.1)) (asked_nm he)
  clear hfp HAL
  go_enter Try.func33, Try.ntmps33
  go_upto_region 1 with (fail)
  obtain ⟨q, hq⟩ : ∃ q, q = w.heap.size := ⟨_, rfl⟩
  have HQ := Lib.hid hq.symm
  rw [← hq] at HM
  simp only [← hq]
  clear hq
  generalize ((w.alloc (.cells #[.slice ra rl rc] 87)).alloc (.cells #[.slice fa fl fc, .slice ma ml mc] 90)) = w1 at HM ⊢
  obtain ⟨-, k0, k1, k2⟩ := HM.out
  have HW1 : Hid (Below w.heap.size w w1) := Lib.hid (by rw [HQ.out]; exact HM.out.1)
  clear HM
  go_wp2_with fail
  refine (HAK.out _ HW1.out).mono ?_
  rintro e w2 ⟨rfl, hb2⟩
  have m0 := hb2.on k0
  have m1 := hb2.on k1
  have m2 := hb2.on k2
  have HW2 : Hid (Below w.heap.size w w2) := Lib.hid (HW1.out.trans (hb2.mono HW1.out.size))
  clear hb2 k0 k1 k2 HAK
  by_cases he : er = 0
  · have d1 : (er != 0) = false := by simp [he]
    have HE : Hid (d.err = 0) := Lib.hid (by rw [← HER.out]; exact he)
    have HBB := Lib.hid (And.intro (HAD.out HE.out) (And.intro (HBE.out HE.out) (asked_ok HE.out)))
    have m40 : ml ≤ 40 := by rw [HL.out.2.2]; exact HBB.out.2.2.m40
    have m1r : 1 ≤ ml := by rw [HL.out.2.2]; exact HBB.out.2.2.m1
    have r39 : rl ≤ 39 := by rw [HL.out.1]; exact HBB.out.2.2.r39
    clear he HAD HBE
    go_wp2_with fail
    have HB4 : Hid (Below w.heap.size w w2.drew) := Lib.hid (HW2.out.trans ((Below.refl _ w2).drew.mono HW2.out.size))
    have hC : (fun W => W.cell? ⟨q, 0, none⟩ = some (.slice ra rl rc) ∧ W.cell? ⟨q + 1, 0, none⟩ = some (.slice fa fl fc) ∧ W.cell? ⟨q + 1, 1, none⟩ = some (.slice ma ml mc)) w2.drew := ⟨m0, m1, m2⟩
    clear m0 m1 m2
    generalize hW0 : w2.drew = w4 at HB4 hC
    refine Lim.regC' (fun W => W.cell? ⟨q, 0, none⟩ = some (.slice ra rl rc) ∧ W.cell? ⟨q + 1, 0, none⟩ = some (.slice fa fl fc) ∧ W.cell? ⟨q + 1, 1, none⟩ = some (.slice ma ml mc)) [] #[false, false, false, false, false, false, false, false] (by kernel_rfl) rfl ?_
    rw [hW0]; clear hW0
    refine Lim.stepR 0 (fun _ => trivial) rfl (by kernel_rfl) (fun _ _ _ _ h => h) hC rfl ?_; apply Exists.intro; refine ⟨?_, ?_⟩
    · rintro w ⟨r0, r1, r2⟩; go_simp; try with_reducible rfl
    simp only [Act.put, List.setIfInBounds_toArray, List.set_cons_succ, List.set_cons_zero]
    refine Lim.stepR 1 (fun _ => trivial) rfl (by kernel_rfl) (fun _ _ _ _ h => h) hC rfl ?_; apply Exists.intro; refine ⟨?_, ?_⟩
    · rintro w ⟨r0, r1, r2⟩; go_simp; try with_reducible rfl
    simp only [Act.put, List.setIfInBounds_toArray, List.set_cons_succ, List.set_cons_zero]
    refine Lim.stepR 3 (fun _ => trivial) rfl (by kernel_rfl) (fun _ _ _ _ h => h) hC rfl ?_; apply Exists.intro; refine ⟨?_, ?_⟩
    · rintro w ⟨r0, r1, r2⟩; go_simp; try with_reducible rfl
    simp only [Act.put, List.setIfInBounds_toArray, List.set_cons_succ, List.set_cons_zero]
    refine Lim.stepR 4 (fun _ => trivial) rfl (by kernel_rfl) (fun _ _ _ _ h => h) hC rfl ?_; apply Exists.intro; refine ⟨?_, ?_⟩
    · rintro w ⟨r0, r1, r2⟩; go_simp; try with_reducible rfl
    simp only [Act.put, List.setIfInBounds_toArray, List.set_cons_succ, List.set_cons_zero]
    refine Lim.stepE 2 (fun _ => trivial) rfl (by kernel_rfl) rfl (fun K hK => ?_)   -- E call
    go_simp
    refine ⟨rfl, (callsIn_wide.2 (HBB.out.1 _ HB4.out)).mono ?_⟩
    rintro e w5 ⟨g, rfl, hct⟩
    have HB5 : Hid (Below w.heap.size w w5) := Lib.hid (HB4.out.trans (hct.be.mono HB4.out.size))
    have hC2 : (fun W => W.cell? ⟨q, 0, none⟩ = some (.slice ra rl rc) ∧ W.cell? ⟨q + 1, 0, none⟩ = some (.slice fa fl fc) ∧ W.cell? ⟨q + 1, 1, none⟩ = some (.slice ma ml mc)) w5 := ⟨hct.be.on hC.1, hct.be.on hC.2.1, hct.be.on hC.2.2⟩
    clear hC
    refine hK _ _ hC2 ?_
    simp only [Act.put, List.setIfInBounds_toArray, List.set_cons_succ, List.set_cons_zero]
    refine Lim.stepE 5 (fun _ => trivial) rfl (by kernel_rfl) rfl (fun K hK => ?_)   -- E call
    go_simp
    refine ⟨rfl, (callsIn_wide.2 (HBB.out.2.1 _ HB5.out)).mono ?_⟩
    rintro e w6 ⟨v2, rfl, hb6, xs, hbo⟩
    have HB6 : Hid (Below w.heap.size w w6) := Lib.hid (HB5.out.trans (hb6.mono HB5.out.size))
    have hC3 : (fun W => W.cell? ⟨q, 0, none⟩ = some (.slice ra rl rc) ∧ W.cell? ⟨q + 1, 0, none⟩ = some (.slice fa fl fc) ∧ W.cell? ⟨q + 1, 1, none⟩ = some (.slice ma ml mc)) w6 := ⟨hb6.on hC2.1, hb6.on hC2.2.1, hb6.on hC2.2.2⟩
    have hct6 := hct.grow (by omega) hb6
    clear hC2 hct hb6
    refine hK _ _ hC3 ?_
    simp only [Act.put, List.setIfInBounds_toArray, List.set_cons_succ, List.set_cons_zero]
    refine Lim.stepR 6 (fun _ => trivial) rfl (by kernel_rfl) (fun _ _ _ _ h => h) hC3 rfl ?_; apply Exists.intro; refine ⟨?_, ?_⟩
    · rintro w ⟨r0, r1, r2⟩; go_simp; try with_reducible rfl
    simp only [Act.put, List.setIfInBounds_toArray, List.set_cons_succ, List.set_cons_zero]
    refine Lim.stepR 7 (fun _ => trivial) rfl (by kernel_rfl) (fun _ _ _ _ h => h) hC3 rfl ?_; apply Exists.intro; refine ⟨?_, ?_⟩
    · rintro w ⟨r0, r1, r2⟩; go_simp; try with_reducible rfl
    simp only [Act.put, List.setIfInBounds_toArray, List.set_cons_succ, List.set_cons_zero]
    refine Lim.stepD (by kernel_rfl) ?_
    obtain ⟨n0, n1, n2⟩ := hC3
    obtain ⟨g2, c2, rfl⟩ : ∃ g c, v2 = .slice (some ⟨g, 0, none⟩) ml c := by
      rcases hbo.1.2 with ⟨-, e0⟩ | ⟨g, cap, cur, e1, -⟩
      · omega
      · exact ⟨g, cap, e1⟩
    obtain ⟨TA, hTA⟩ : ∃ T, T = tabTo d d.m.length 0 := ⟨_, rfl⟩
    obtain ⟨TB, hTB⟩ : ∃ T, T = behT d := ⟨_, rfl⟩
    have HNT := Lib.hid (And.intro hTA hTB)
    have HT : Hid (∀ W, Below w6.heap.size w6 W → ∀ k y, k < ml → y < 40 → W.cell? ⟨g, k * 40 + y, none⟩ = some (.int .i64 (TA k y : Nat)) ∧ W.cell? ⟨g2, k * 40 + y, none⟩ = some (.int .i64 (TB k y : Nat))) := Lib.hid (fun W hW k y hk hy => by
      have h1 := hct6.c k y hk hy
      have h2 := hbo.1.cells (g := g2) rfl (k * 40 + y) _ (hbo.2 k y hk hy)
      rw [Addr.add_lit, Nat.zero_add] at h2
      rw [hTA, hTB]
      exact ⟨hW.on h1, hW.on h2⟩)
    have HN := Lib.hid (And.intro n0 (And.intro n1 n2))
    clear hct6 hbo hTA hTB n0
    obtain ⟨i0, hi, hz0, hz1, hz2⟩ := info_parts Try.infoInt
    have HIN := Lib.hid (And.intro hi (And.intro hz0 (And.intro hz1 hz2)))
    obtain ⟨i1, hj, hy0, hy1, hy2⟩ := info_parts infoRow
    have HIR := Lib.hid (And.intro hj (And.intro hy0 (And.intro hy1 hy2)))
    clear hi hz0 hz1 hz2 hj hy0 hy1 hy2 HBB
    go_wp2_with fail
    clear n1 n2
    go_loopw [9, 28] (fun ov kv wr => ∃ k : Nat, k ≤ ml ∧ kv = .int .i64 k ∧ Hid (Below w6.heap.size w6 wr) ∧ Hid (RowsI w6.heap.size wr ov ((List.range k).map (nums d)) ∧ ∀ x, x < k → nums d x ≠ [])) (fun _ kv _ => ml - (intOf kv).toNat)
    case atStart => exact ⟨0, Nat.zero_le _, by go_num, Lib.hid (Below.refl _ _), Lib.hid ⟨RowsI.nil _ _, fun x h => absurd h (Nat.not_lt_zero _)⟩⟩
    case round =>
      obtain ⟨k, hk, rfl, HBk, HRk⟩ := hrel
      obtain ⟨wo, rfl⟩ : ∃ x, x = wr := ⟨_, rfl⟩
      by_cases hlt : k < ml
      · have g1 : decide ((k : Int) < ml) = true := decide_eq_true (by omega)
        have hki : (k : Int) < ml := by omega
        have n0 := HBk.out.on HN.out.1
        go_wp2_with fail
        clear n0
        go_loopw [11, 35] (fun lv bv wr => ∃ b : Nat, b ≤ rl + 1 ∧ bv = .int .i64 b ∧ Hid (Below wo.heap.size wo wr) ∧ Hid (wr.ownsRow wo.heap.size 3 1 lv (numsTo d k b).length (ints (numsTo d k b)))) (fun _ bv _ => rl + 1 - (intOf bv).toNat)
        case atStart => exact ⟨0, Nat.zero_le _, by go_num, Lib.hid (Below.refl _ _), Lib.hid (ownsRow_zero _ _ _ _)⟩
        case round =>
          obtain ⟨b, hb, rfl, HBb, HLb⟩ := hrel
          obtain ⟨la, lc, rfl⟩ : ∃ a c, u11 = .slice a (numsTo d k b).length c := by
            rcases HLb.out.2 with ⟨e1, e2⟩ | ⟨g, cap, cur, e1, -⟩
            · exact ⟨none, 0, by rw [e1, e2]⟩
            · exact ⟨_, cap, e1⟩
          by_cases hlb : b < rl + 1
          · have g2 : decide ((b : Int) < (rl : Int) + 1) = true := decide_eq_true (by omega)
            have hb40 : (b : Int) < 40 := by omega
            obtain ⟨ta, hta⟩ : ∃ x, x = TA k b := ⟨_, rfl⟩
            obtain ⟨tb, htb⟩ : ∃ x, x = TB k b := ⟨_, rfl⟩
            obtain ⟨ca, cb⟩ := HT.out wr (HBk.out.trans (HBb.out.mono HBk.out.size)) k b hlt (by omega)
            rw [← hta] at ca
            rw [← htb] at cb
            have HTT := Lib.hid (And.intro hta htb)
            have hln := numsTo_len d k b
            have HLN := Lib.hid hln
            clear hta htb hln
            by_cases hA : 0 < ta
            · have g3 : decide ((0 : Int) < (ta : Int)) = true := decide_eq_true (by omega)
              by_cases hB : 0 < tb
              · have g4 : decide ((0 : Int) < (tb : Int)) = true := decide_eq_true (by omega)
                have HS : Hid (numsTo d k (b + 1) = numsTo d k b ++ [(b : Int)]) := Lib.hid (numsTo_add (by rw [← HNT.out.1, ← HTT.out.1]; exact hA) (by rw [← HNT.out.2, ← HTT.out.2]; exact hB))
                obtain ⟨L, hL⟩ : ∃ L, L = numsTo d k b := ⟨_, rfl⟩
                rw [← hL] at HLb HLN HS ⊢
                have h1u : ∀ u ∈ [Value.int .i64 (b : Int)], u.oneCell' = true := by simp [Value.oneCell']
                obtain ⟨ll, hll⟩ : ∃ x, x = L.length := ⟨_, rfl⟩
                rw [← hll] at HLb ⊢
                clear hL
                have HLL := Lib.hid hll
                clear hll
                go_wp2_with (at_builtin; refine wpList_append_own _ rfl _ _ 25 rfl wo.heap.size 3 i0 (.int .i64 0) 1 8 Try.underlying25 HIN.out.1 HIN.out.2.1 HIN.out.2.2.1 HIN.out.2.2.2 rfl (by decide) (.slice la ll lc) ll (ints L) rfl (HLb.out.alloc _) ⟨wr.heap.size, 0, none⟩ 1 1 [.int .i64 b] rfl rfl (cell_one_new _ _ _) h1u (by have := HLN.out; have := HLL.out; unfold maxLen; omega) (by have := HLN.out; have := HLL.out; omega) (by have := HBb.out.size; simp; omega) ?_; intro v' w3 hown hgr _)
                exact ⟨⟨b + 1, by omega, by go_num, Lib.hid ((HBb.out.alloc HBb.out.size _).grown hgr (by have := HBb.out.size; simp; omega) (fun k e => (HLb.out.lt k e).1)), Lib.hid (by rw [HS.out, List.length_append, ← HLL.out]; simpa [ints] using hown)⟩, by simp [intOf]; omega⟩
              · have g4 : decide ((0 : Int) < (tb : Int)) = false := decide_eq_false (by omega)
                have HS : Hid (numsTo d k (b + 1) = numsTo d k b) := Lib.hid (numsTo_skip (by rw [← HNT.out.1, ← HNT.out.2, ← HTT.out.1, ← HTT.out.2]; omega))
                clear g3 g4
                go_wp2_with fail
                exact ⟨⟨b + 1, by omega, by go_num, HBb, by rw [HS.out]; exact HLb⟩, by simp [intOf]; omega⟩
            · have g3 : decide ((0 : Int) < (ta : Int)) = false := decide_eq_false (by omega)
              have HS : Hid (numsTo d k (b + 1) = numsTo d k b) := Lib.hid (numsTo_skip (by rw [← HNT.out.1, ← HNT.out.2, ← HTT.out.1, ← HTT.out.2]; omega))
              clear g3 cb
              go_wp2_with fail
              exact ⟨⟨b + 1, by omega, by go_num, HBb, by rw [HS.out]; exact HLb⟩, by simp [intOf]; omega⟩
          · obtain rfl : b = rl + 1 := by omega
            have g2 : decide (((rl + 1 : Nat) : Int) < (rl : Int) + 1) = false := decide_eq_false (by omega)
            have HNU : Hid (nums d k = numsTo d k (rl + 1)) := Lib.hid (by rw [nums, HL.out.1])
            by_cases h0 : (numsTo d k (rl + 1)).length = 0
            · have HN0 : Hid (nums d k = []) := Lib.hid (by rw [HNU.out]; exact List.eq_nil_of_length_eq_zero h0)
              rw [h0]
              go_wp2
              go_ret2
              exact ⟨_, _, rfl, HB6.out.trans ((HBk.out.trans (HBb.out.mono HBk.out.size)).mono HB6.out.size), .inr (.inl ⟨HE.out, ⟨k, by rw [← HL.out.2.2]; exact hlt, HN0.out⟩, rfl, rfl⟩)⟩
            · have g3 : ((((numsTo d k (rl + 1)).length : Nat) : Int) == 0) = false := by rw [beq_eq_false_iff_ne]; omega
              have HN0 : Hid (nums d k ≠ []) := Lib.hid (by rw [HNU.out]; intro h; rw [h] at h0; exact h0 rfl)
              obtain ⟨vs, hvs, hel⟩ := HRk.out.1
              have HVS := Lib.hid (And.intro hvs hel)
              clear hvs hel h0
              obtain ⟨oa, oc, rfl⟩ : ∃ a c, u9 = .slice a k c := by
                rcases HVS.out.1.2 with ⟨e1, e2⟩ | ⟨g, cap, cur, e1, -⟩
                · exact ⟨none, 0, by rw [e1]; simp at e2; rw [e2]⟩
                · exact ⟨some ⟨g, 0, none⟩, cap, by rw [e1]; simp⟩
              obtain ⟨L, hL⟩ : ∃ L, L = numsTo d k (rl + 1) := ⟨_, rfl⟩
              rw [← hL] at HLb g3 ⊢
              obtain ⟨ll, hll⟩ : ∃ x, x = L.length := ⟨_, rfl⟩
              rw [← hll] at HLb g3 ⊢
              have HLL := Lib.hid (And.intro hll hL)
              clear hll hL
              have hb2 : Below wo.heap.size wo wr := HBb.out
              have HV2 : Hid (wr.ownsRow w6.heap.size 25 1 (.slice oa k oc) k vs ∧ (∀ (x : Nat) (l : List Int), ((List.range k).map (nums d))[x]? = some l → ∃ y, vs[x]? = some y ∧ wr.ownsRow w6.heap.size 3 1 y l.length (ints l)) ∧ w6.heap.size ≤ wr.heap.size) := Lib.hid (by
                have h := HVS.out.1
                rw [List.length_map, List.length_range] at h
                exact ⟨owns_below h hb2, fun x l hx => let ⟨y, e, h3⟩ := HVS.out.2 x l hx; ⟨y, e, owns_below h3 hb2⟩, Nat.le_trans HBk.out.size hb2.size⟩)
              have h1u : ∀ u ∈ [Value.slice la ll lc], u.oneCell' = true := by simp [Value.oneCell']
              clear hb2
              go_wp2_with (at_builtin; refine wpList_append_own _ rfl _ _ 83 rfl w6.heap.size 25 i1 (.slice none 0 0) 1 24 Try.underlying83 HIR.out.1 HIR.out.2.1 HIR.out.2.2.1 HIR.out.2.2.2 rfl (by decide) (.slice oa k oc) k vs rfl (HV2.out.1.alloc _) ⟨wr.heap.size, 0, none⟩ 1 1 [.slice la ll lc] rfl rfl (cell_one_new _ _ _) h1u (by unfold maxLen; omega) (by omega) (by have := HV2.out.2.2; simp; omega) ?_; intro v' w3 hown hgr _)
              have hAl : Below wr.heap.size wr (wr.alloc (.cells #[.slice la ll lc] 25)) := (Below.refl _ wr).alloc (Nat.le_refl _) _
              have HR2 : Hid (RowsI w6.heap.size w3 v' ((List.range (k + 1)).map (nums d))) := Lib.hid (by
                rw [List.range_succ, List.map_append]
                have e1 : [k].map (nums d) = [L] := by rw [HLL.out.2, ← HNU.out]; rfl
                rw [e1]
                have e2 : ((List.range k).map (nums d)).length = k := by simp
                refine RowsI.add (W := wr.alloc (.cells #[.slice la ll lc] 25)) (v := .slice oa k oc) (vs := vs) (x := .slice la ll lc) (by rw [e2]; exact owns_below HV2.out.1 hAl) (fun x l hx => let ⟨y, e, h3⟩ := HV2.out.2.1 x l hx; ⟨y, e, owns_below h3 hAl⟩) ?_ (by rw [e2]; exact hown) hgr
                rw [← HLL.out.1]
                exact owns_mono (owns_below HLb.out hAl) HBk.out.size)
              have HB7 : Hid (Below w6.heap.size w6 w3) := Lib.hid (((HBk.out.trans (HBb.out.mono HBk.out.size)).trans (hAl.mono HV2.out.2.2)).grown hgr (by have := HV2.out.2.2; simp; omega) (fun k e => (HV2.out.1.lt k e).1))
              clear hAl hown hgr
              exact ⟨⟨k + 1, by omega, by go_num, HB7, Lib.hid ⟨HR2.out, fun x hx => (Nat.lt_or_ge x k).elim (HRk.out.2 x) (fun h => (show x = k by omega) ▸ HN0.out)⟩⟩, by simp [intOf]; omega⟩
      · obtain rfl : k = ml := by omega
        have g1 : decide ((k : Int) < k) = false := decide_eq_false (by omega)
        go_wp2
        go_ret2
        exact ⟨_, _, rfl, HB6.out.trans (HBk.out.mono HB6.out.size), .inr (.inr ⟨HE.out, fun x hx => HRk.out.2 x (by rw [HL.out.2.2]; exact hx), rfl, by rw [← HL.out.2.2]; exact HRk.out.1.mono HB6.out.size⟩)⟩
  · have d1 : (er != 0) = true := by simp [he]
    have HE : Hid (d.err ≠ 0) := Lib.hid (by rw [← HER.out]; exact he)
    clear he
    go_wp2
    go_ret2
    exact ⟨_, _, rfl, HW2.out, .inl ⟨HE.out, HER.out, rfl⟩⟩
end Go.Proofs.Ytohjinbgbfggcaa
/-
  Lists are compared: the contracts of the kit's function Equal at numbers and spans.
-/
namespace Go.Proofs.Ytohjinbgbfggcaa
open Go.RowKit Go.Shelf
open Lim

theorem list_eq_of {α : Type} [DecidableEq α] {l1 l2 : List α} {k : Nat} (h : ∀ j, j < k → l1[j]? = l2[j]?) (h1 : k = l1.length) (h2 : l1.length = l2.length) : l1 = l2 := by
  apply List.ext_getElem?
  intro j
  by_cases hj : j < k
  · exact h j hj
  · rw [List.getElem?_eq_none (by omega), List.getElem?_eq_none (by omega)]


set_option maxRecDepth 100000 in
set_option maxHeartbeats 1000000 in
theorem equal_ints {B1 B2 : Nat} {v1 v2 : Value} {l1 l2 : List Int} {w : World} (hn : l1.length ≤ 1000) (h1 : RS B1 w v1 l1.length (ints l1)) (h2 : RS B2 w v2 l2.length (ints l2)) :
    Calls Try.prog 30 #[v1, v2] w fun e w' => e = .returned (.bool (decide (l1 = l2))) ∧ Below w.heap.size w w' := by
  obtain ⟨a1, c1, rfl, g1⟩ := h1
  obtain ⟨a2, c2, rfl, g2⟩ := h2
  have HG := Lib.hid (And.intro g1 g2)
  clear g1 g2
  obtain ⟨n2, hn2⟩ : ∃ n2, n2 = l2.length := ⟨_, rfl⟩
  obtain ⟨n1, hn1⟩ : ∃ n1, n1 = l1.length := ⟨_, rfl⟩
  rw [← hn2]
  rw [← hn1] at hn ⊢
  have HN := Lib.hid (And.intro hn1 hn2)
  clear hn1 hn2
  go_enter Try.func30, Try.ntmps30
  go_wp2_with fail
  go_loopw [8] (fun i wr => ∃ k : Nat, k ≤ n1 ∧ i = .int .i64 k ∧ Hid (k ≤ n2 ∧ ∀ j, j < k → l1[j]? = l2[j]?) ∧ Below w.heap.size w wr) (fun i _ => n1 - (intOf i).toNat)
  case atStart => exact ⟨0, Nat.zero_le _, rfl, Lib.hid ⟨Nat.zero_le _, fun j h => by omega⟩, Below.refl _ _⟩
  case round =>
    obtain ⟨k, hk, rfl, hP, hbr⟩ := hrel
    by_cases hlt : k < n1
    · have hkb : (k : Int) < 1000 := by omega
      by_cases hle : n2 ≤ k
      · have hd : decide (n2 ≤ k) = true := by simpa using hle
        have hC : (fun _ : World => True) wr.drew := trivial
        go_wp2_with fail
        refine Lim.regC' (fun _ => True) [] #[false, false, false, false, false, false, false, false, false, false, false, false, false, false, false] (by kernel_rfl) rfl ?_
        refine Lim.stepR 0 (fun _ => trivial) rfl (by kernel_rfl) (fun _ _ _ _ h => h) hC rfl ?_; apply Exists.intro; refine ⟨?_, ?_⟩
        · rintro w _; go_simp; try with_reducible rfl
        simp only [Act.put, List.setIfInBounds_toArray, List.set_cons_succ, List.set_cons_zero]
        refine Lim.stepR 1 (fun _ => trivial) rfl (by kernel_rfl) (fun _ _ _ _ h => h) hC rfl ?_; apply Exists.intro; refine ⟨?_, ?_⟩
        · rintro w _; go_simp; try with_reducible rfl
        simp only [Act.put, List.setIfInBounds_toArray, List.set_cons_succ, List.set_cons_zero]
        refine Lim.stepR 2 (fun _ => trivial) rfl (by kernel_rfl) (fun _ _ _ _ h => h) hC rfl ?_; apply Exists.intro; refine ⟨?_, ?_⟩
        · rintro w _; go_simp; try with_reducible rfl
        simp only [Act.put, List.setIfInBounds_toArray, List.set_cons_succ, List.set_cons_zero]
        refine Lim.stepR 3 (fun _ => trivial) rfl (by kernel_rfl) (fun _ _ _ _ h => h) hC rfl ?_; apply Exists.intro; refine ⟨?_, ?_⟩
        · rintro w _; go_simp; try with_reducible rfl
        simp only [Act.put, List.setIfInBounds_toArray, List.set_cons_succ, List.set_cons_zero]
        refine Lim.stepR 4 (fun _ => trivial) rfl (by kernel_rfl) (fun _ _ _ _ h => h) hC rfl ?_; apply Exists.intro; refine ⟨?_, ?_⟩
        · rintro w _; go_simp; try with_reducible rfl
        simp only [Act.put, List.setIfInBounds_toArray, List.set_cons_succ, List.set_cons_zero]
        refine Lim.stepS 5 (fun _ => trivial) rfl (by kernel_rfl) (fun _ _ _ _ h => h) hC rfl ?_
        simp only [Act.put, List.setIfInBounds_toArray, List.set_cons_succ, List.set_cons_zero]
        refine Lim.stepS 6 (fun _ => trivial) rfl (by kernel_rfl) (fun _ _ _ _ h => h) hC rfl ?_
        simp only [Act.put, List.setIfInBounds_toArray, List.set_cons_succ, List.set_cons_zero]
        refine Lim.stepS 7 (fun _ => trivial) rfl (by kernel_rfl) (fun _ _ _ _ h => h) hC rfl ?_
        simp only [Act.put, List.setIfInBounds_toArray, List.set_cons_succ, List.set_cons_zero]
        refine Lim.stepS 8 (fun _ => trivial) rfl (by kernel_rfl) (fun _ _ _ _ h => h) hC rfl ?_
        simp only [Act.put, List.setIfInBounds_toArray, List.set_cons_succ, List.set_cons_zero]
        refine Lim.stepS 9 (fun _ => trivial) rfl (by kernel_rfl) (fun _ _ _ _ h => h) hC rfl ?_
        simp only [Act.put, List.setIfInBounds_toArray, List.set_cons_succ, List.set_cons_zero]
        refine Lim.stepS 10 (fun _ => trivial) rfl (by kernel_rfl) (fun _ _ _ _ h => h) hC rfl ?_
        simp only [Act.put, List.setIfInBounds_toArray, List.set_cons_succ, List.set_cons_zero]
        refine Lim.stepS 11 (fun _ => trivial) rfl (by kernel_rfl) (fun _ _ _ _ h => h) hC rfl ?_
        simp only [Act.put, List.setIfInBounds_toArray, List.set_cons_succ, List.set_cons_zero]
        refine Lim.stepS 12 (fun _ => trivial) rfl (by kernel_rfl) (fun _ _ _ _ h => h) hC rfl ?_
        simp only [Act.put, List.setIfInBounds_toArray, List.set_cons_succ, List.set_cons_zero]
        refine Lim.stepS 13 (fun _ => trivial) rfl (by kernel_rfl) (fun _ _ _ _ h => h) hC rfl ?_
        simp only [Act.put, List.setIfInBounds_toArray, List.set_cons_succ, List.set_cons_zero]
        refine Lim.stepR 14 (fun _ => trivial) rfl (by kernel_rfl) (fun _ _ _ _ h => h) hC rfl ?_; apply Exists.intro; refine ⟨?_, ?_⟩
        · rintro w _; go_simp; try with_reducible rfl
        simp only [Act.put, List.setIfInBounds_toArray, List.set_cons_succ, List.set_cons_zero]
        refine Lim.stepD (by kernel_rfl) ?_
        clear hC
        go_wp2
        go_ret
        exact ⟨by rw [show decide (l1 = l2) = false from decide_eq_false (fun e => by have h3 := HN.out.1; have h4 := HN.out.2; rw [e] at h3; omega)]; rfl, hbr.drew⟩
      · have hd : decide (n2 ≤ k) = false := by simpa using hle
        have hlt2 : k < n2 := by omega
        obtain ⟨ab, aoff, rfl, hab, hac⟩ := HG.out.1 (ints_ne (by have := HN.out.1; omega))
        obtain ⟨bb, boff, rfl, hbb, hbc⟩ := HG.out.2 (ints_ne (by have := HN.out.2; omega))
        have hk1 : k < l1.length := by have := HN.out.1; omega
        have hk2 : k < l2.length := by have := HN.out.2; omega
        obtain ⟨x, hx⟩ : ∃ x, x = l1[k] := ⟨_, rfl⟩
        obtain ⟨y, hy⟩ : ∃ y, y = l2[k] := ⟨_, rfl⟩
        have q1 : wr.cell? ⟨ab, aoff + k, none⟩ = some (.int .i64 x) := by rw [hx]; exact cell_on hbr (hac k _ (ints_at l1 k hk1))
        have q2 : wr.cell? ⟨bb, boff + k, none⟩ = some (.int .i64 y) := by rw [hy]; exact cell_on hbr (hbc k _ (ints_at l2 k hk2))
        have HX : Hid (l1[k]? = some x ∧ l2[k]? = some y) := Lib.hid ⟨by rw [List.getElem?_eq_getElem hk1, hx], by rw [List.getElem?_eq_getElem hk2, hy]⟩
        clear hx hy hk1 hk2 hac hbc
        have hC : (fun W => W.cell? ⟨ab, aoff + k, none⟩ = some (.int .i64 x) ∧ W.cell? ⟨bb, boff + k, none⟩ = some (.int .i64 y)) wr.drew := ⟨q1, q2⟩
        by_cases hxy : x = y
        · subst hxy
          have hne : (x != x) = false := by simp
          go_wp2_with fail
          refine Lim.regC' (fun W => W.cell? ⟨ab, aoff + k, none⟩ = some (.int .i64 x) ∧ W.cell? ⟨bb, boff + k, none⟩ = some (.int .i64 x)) [] #[false, false, false, false, false, false, false, false, false, false, false, false, false, false, false] (by kernel_rfl) rfl ?_
          refine Lim.stepR 0 (fun _ => trivial) rfl (by kernel_rfl) (fun _ _ _ _ h => h) hC rfl ?_; apply Exists.intro; refine ⟨?_, ?_⟩
          · rintro w ⟨r1, r2⟩; go_simp; try with_reducible rfl
          simp only [Act.put, List.setIfInBounds_toArray, List.set_cons_succ, List.set_cons_zero]
          refine Lim.stepR 1 (fun _ => trivial) rfl (by kernel_rfl) (fun _ _ _ _ h => h) hC rfl ?_; apply Exists.intro; refine ⟨?_, ?_⟩
          · rintro w ⟨r1, r2⟩; go_simp; try with_reducible rfl
          simp only [Act.put, List.setIfInBounds_toArray, List.set_cons_succ, List.set_cons_zero]
          refine Lim.stepR 2 (fun _ => trivial) rfl (by kernel_rfl) (fun _ _ _ _ h => h) hC rfl ?_; apply Exists.intro; refine ⟨?_, ?_⟩
          · rintro w ⟨r1, r2⟩; go_simp; try with_reducible rfl
          simp only [Act.put, List.setIfInBounds_toArray, List.set_cons_succ, List.set_cons_zero]
          refine Lim.stepR 3 (fun _ => trivial) rfl (by kernel_rfl) (fun _ _ _ _ h => h) hC rfl ?_; apply Exists.intro; refine ⟨?_, ?_⟩
          · rintro w ⟨r1, r2⟩; go_simp; try with_reducible rfl
          simp only [Act.put, List.setIfInBounds_toArray, List.set_cons_succ, List.set_cons_zero]
          refine Lim.stepR 4 (fun _ => trivial) rfl (by kernel_rfl) (fun _ _ _ _ h => h) hC rfl ?_; apply Exists.intro; refine ⟨?_, ?_⟩
          · rintro w ⟨r1, r2⟩; go_simp; try with_reducible rfl
          simp only [Act.put, List.setIfInBounds_toArray, List.set_cons_succ, List.set_cons_zero]
          refine Lim.stepR 5 (fun _ => trivial) rfl (by kernel_rfl) (fun _ _ _ _ h => h) hC rfl ?_; apply Exists.intro; refine ⟨?_, ?_⟩
          · rintro w ⟨r1, r2⟩; go_simp; try with_reducible rfl
          simp only [Act.put, List.setIfInBounds_toArray, List.set_cons_succ, List.set_cons_zero]
          refine Lim.stepR 6 (fun _ => trivial) rfl (by kernel_rfl) (fun _ _ _ _ h => h) hC rfl ?_; apply Exists.intro; refine ⟨?_, ?_⟩
          · rintro w ⟨r1, r2⟩; go_simp; try with_reducible rfl
          simp only [Act.put, List.setIfInBounds_toArray, List.set_cons_succ, List.set_cons_zero]
          refine Lim.stepR 7 (fun _ => trivial) rfl (by kernel_rfl) (fun _ _ _ _ h => h) hC rfl ?_; apply Exists.intro; refine ⟨?_, ?_⟩
          · rintro w ⟨r1, r2⟩; go_simp; try with_reducible rfl
          simp only [Act.put, List.setIfInBounds_toArray, List.set_cons_succ, List.set_cons_zero]
          refine Lim.stepR 8 (fun _ => trivial) rfl (by kernel_rfl) (fun _ _ _ _ h => h) hC rfl ?_; apply Exists.intro; refine ⟨?_, ?_⟩
          · rintro w ⟨r1, r2⟩; go_simp; try with_reducible rfl
          simp only [Act.put, List.setIfInBounds_toArray, List.set_cons_succ, List.set_cons_zero]
          refine Lim.stepR 9 (fun _ => trivial) rfl (by kernel_rfl) (fun _ _ _ _ h => h) hC rfl ?_; apply Exists.intro; refine ⟨?_, ?_⟩
          · rintro w ⟨r1, r2⟩; go_simp; try with_reducible rfl
          simp only [Act.put, List.setIfInBounds_toArray, List.set_cons_succ, List.set_cons_zero]
          refine Lim.stepR 10 (fun _ => trivial) rfl (by kernel_rfl) (fun _ _ _ _ h => h) hC rfl ?_; apply Exists.intro; refine ⟨?_, ?_⟩
          · rintro w ⟨r1, r2⟩; go_simp; try with_reducible rfl
          simp only [Act.put, List.setIfInBounds_toArray, List.set_cons_succ, List.set_cons_zero]
          refine Lim.stepR 11 (fun _ => trivial) rfl (by kernel_rfl) (fun _ _ _ _ h => h) hC rfl ?_; apply Exists.intro; refine ⟨?_, ?_⟩
          · rintro w ⟨r1, r2⟩; go_simp; try with_reducible rfl
          simp only [Act.put, List.setIfInBounds_toArray, List.set_cons_succ, List.set_cons_zero]
          refine Lim.stepR 12 (fun _ => trivial) rfl (by kernel_rfl) (fun _ _ _ _ h => h) hC rfl ?_; apply Exists.intro; refine ⟨?_, ?_⟩
          · rintro w ⟨r1, r2⟩; go_simp; try with_reducible rfl
          simp only [Act.put, List.setIfInBounds_toArray, List.set_cons_succ, List.set_cons_zero]
          refine Lim.stepR 13 (fun _ => trivial) rfl (by kernel_rfl) (fun _ _ _ _ h => h) hC rfl ?_; apply Exists.intro; refine ⟨?_, ?_⟩
          · rintro w ⟨r1, r2⟩; go_simp; try with_reducible rfl
          simp only [Act.put, List.setIfInBounds_toArray, List.set_cons_succ, List.set_cons_zero]
          refine Lim.stepR 14 (fun _ => trivial) rfl (by kernel_rfl) (fun _ _ _ _ h => h) hC rfl ?_; apply Exists.intro; refine ⟨?_, ?_⟩
          · rintro w ⟨r1, r2⟩; go_simp; try with_reducible rfl
          simp only [Act.put, List.setIfInBounds_toArray, List.set_cons_succ, List.set_cons_zero]
          refine Lim.stepD (by kernel_rfl) ?_
          clear hC q1 q2
          go_wp2
          go_roundw
          case rel =>
            refine ⟨k + 1, by omega, by go_num, Lib.hid ⟨by omega, fun j hj => ?_⟩, hbr.drew⟩
            by_cases e : j = k
            · subst e; rw [HX.out.1, HX.out.2]
            · exact hP.out.2 j (by omega)
          case measure => simp [intOf]; omega
        · have HXY := Lib.hid hxy
          have hne : (x != y) = true := by simpa using hxy
          go_wp2_with fail
          refine Lim.regC' (fun W => W.cell? ⟨ab, aoff + k, none⟩ = some (.int .i64 x) ∧ W.cell? ⟨bb, boff + k, none⟩ = some (.int .i64 y)) [] #[false, false, false, false, false, false, false, false, false, false, false, false, false, false, false] (by kernel_rfl) rfl ?_
          refine Lim.stepR 0 (fun _ => trivial) rfl (by kernel_rfl) (fun _ _ _ _ h => h) hC rfl ?_; apply Exists.intro; refine ⟨?_, ?_⟩
          · rintro w ⟨r1, r2⟩; go_simp; try with_reducible rfl
          simp only [Act.put, List.setIfInBounds_toArray, List.set_cons_succ, List.set_cons_zero]
          refine Lim.stepR 1 (fun _ => trivial) rfl (by kernel_rfl) (fun _ _ _ _ h => h) hC rfl ?_; apply Exists.intro; refine ⟨?_, ?_⟩
          · rintro w ⟨r1, r2⟩; go_simp; try with_reducible rfl
          simp only [Act.put, List.setIfInBounds_toArray, List.set_cons_succ, List.set_cons_zero]
          refine Lim.stepR 2 (fun _ => trivial) rfl (by kernel_rfl) (fun _ _ _ _ h => h) hC rfl ?_; apply Exists.intro; refine ⟨?_, ?_⟩
          · rintro w ⟨r1, r2⟩; go_simp; try with_reducible rfl
          simp only [Act.put, List.setIfInBounds_toArray, List.set_cons_succ, List.set_cons_zero]
          refine Lim.stepR 3 (fun _ => trivial) rfl (by kernel_rfl) (fun _ _ _ _ h => h) hC rfl ?_; apply Exists.intro; refine ⟨?_, ?_⟩
          · rintro w ⟨r1, r2⟩; go_simp; try with_reducible rfl
          simp only [Act.put, List.setIfInBounds_toArray, List.set_cons_succ, List.set_cons_zero]
          refine Lim.stepR 4 (fun _ => trivial) rfl (by kernel_rfl) (fun _ _ _ _ h => h) hC rfl ?_; apply Exists.intro; refine ⟨?_, ?_⟩
          · rintro w ⟨r1, r2⟩; go_simp; try with_reducible rfl
          simp only [Act.put, List.setIfInBounds_toArray, List.set_cons_succ, List.set_cons_zero]
          refine Lim.stepR 5 (fun _ => trivial) rfl (by kernel_rfl) (fun _ _ _ _ h => h) hC rfl ?_; apply Exists.intro; refine ⟨?_, ?_⟩
          · rintro w ⟨r1, r2⟩; go_simp; try with_reducible rfl
          simp only [Act.put, List.setIfInBounds_toArray, List.set_cons_succ, List.set_cons_zero]
          refine Lim.stepR 6 (fun _ => trivial) rfl (by kernel_rfl) (fun _ _ _ _ h => h) hC rfl ?_; apply Exists.intro; refine ⟨?_, ?_⟩
          · rintro w ⟨r1, r2⟩; go_simp; try with_reducible rfl
          simp only [Act.put, List.setIfInBounds_toArray, List.set_cons_succ, List.set_cons_zero]
          refine Lim.stepR 7 (fun _ => trivial) rfl (by kernel_rfl) (fun _ _ _ _ h => h) hC rfl ?_; apply Exists.intro; refine ⟨?_, ?_⟩
          · rintro w ⟨r1, r2⟩; go_simp; try with_reducible rfl
          simp only [Act.put, List.setIfInBounds_toArray, List.set_cons_succ, List.set_cons_zero]
          refine Lim.stepR 8 (fun _ => trivial) rfl (by kernel_rfl) (fun _ _ _ _ h => h) hC rfl ?_; apply Exists.intro; refine ⟨?_, ?_⟩
          · rintro w ⟨r1, r2⟩; go_simp; try with_reducible rfl
          simp only [Act.put, List.setIfInBounds_toArray, List.set_cons_succ, List.set_cons_zero]
          refine Lim.stepR 9 (fun _ => trivial) rfl (by kernel_rfl) (fun _ _ _ _ h => h) hC rfl ?_; apply Exists.intro; refine ⟨?_, ?_⟩
          · rintro w ⟨r1, r2⟩; go_simp; try with_reducible rfl
          simp only [Act.put, List.setIfInBounds_toArray, List.set_cons_succ, List.set_cons_zero]
          refine Lim.stepR 10 (fun _ => trivial) rfl (by kernel_rfl) (fun _ _ _ _ h => h) hC rfl ?_; apply Exists.intro; refine ⟨?_, ?_⟩
          · rintro w ⟨r1, r2⟩; go_simp; try with_reducible rfl
          simp only [Act.put, List.setIfInBounds_toArray, List.set_cons_succ, List.set_cons_zero]
          refine Lim.stepR 11 (fun _ => trivial) rfl (by kernel_rfl) (fun _ _ _ _ h => h) hC rfl ?_; apply Exists.intro; refine ⟨?_, ?_⟩
          · rintro w ⟨r1, r2⟩; go_simp; try with_reducible rfl
          simp only [Act.put, List.setIfInBounds_toArray, List.set_cons_succ, List.set_cons_zero]
          refine Lim.stepR 12 (fun _ => trivial) rfl (by kernel_rfl) (fun _ _ _ _ h => h) hC rfl ?_; apply Exists.intro; refine ⟨?_, ?_⟩
          · rintro w ⟨r1, r2⟩; go_simp; try with_reducible rfl
          simp only [Act.put, List.setIfInBounds_toArray, List.set_cons_succ, List.set_cons_zero]
          refine Lim.stepR 13 (fun _ => trivial) rfl (by kernel_rfl) (fun _ _ _ _ h => h) hC rfl ?_; apply Exists.intro; refine ⟨?_, ?_⟩
          · rintro w ⟨r1, r2⟩; go_simp; try with_reducible rfl
          simp only [Act.put, List.setIfInBounds_toArray, List.set_cons_succ, List.set_cons_zero]
          refine Lim.stepR 14 (fun _ => trivial) rfl (by kernel_rfl) (fun _ _ _ _ h => h) hC rfl ?_; apply Exists.intro; refine ⟨?_, ?_⟩
          · rintro w ⟨r1, r2⟩; go_simp; try with_reducible rfl
          simp only [Act.put, List.setIfInBounds_toArray, List.set_cons_succ, List.set_cons_zero]
          refine Lim.stepD (by kernel_rfl) ?_
          clear hC q1 q2
          go_wp2
          go_ret
          exact ⟨by rw [show decide (l1 = l2) = false from decide_eq_false (fun e => by have h3 := HX.out.1; rw [e, HX.out.2] at h3; cases h3; exact HXY.out rfl)]; rfl, hbr.drew⟩
    · obtain rfl : k = n1 := by omega
      by_cases he : k = n2
      · subst he
        have hb : decide (l1 = l2) = true := by rw [decide_eq_true_eq]; exact list_eq_of hP.out.2 HN.out.1 (by have h3 := HN.out.1; have h4 := HN.out.2; omega)
        have HB := Lib.hid hb
        clear hb
        go_wp2
        go_ret
        exact ⟨by rw [HB.out]; rfl, hbr⟩
      · have he1 : ((k : Int) == (n2 : Int)) = false := by rw [beq_eq_false_iff_ne]; omega
        have hb : decide (l1 = l2) = false := by rw [decide_eq_false_iff_not]; intro e; have h3 := HN.out.1; have h4 := HN.out.2; rw [e] at h3; omega
        have HB := Lib.hid hb
        clear hb
        go_wp2
        go_ret
        exact ⟨by rw [HB.out]; rfl, hbr⟩

end Go.Proofs.Ytohjinbgbfggcaa
/-
  Lists of their own: the contracts of the kit's function Clone.
-/
namespace Go.Proofs.Ytohjinbgbfggcaa
open Go.RowKit Go.Shelf
open Lim

theorem addr_add (b off j : Nat) : (⟨b, off, none⟩ : Addr).add j = ⟨b, off + j, none⟩ := by unfold Addr.add; split <;> simp_all
section
variable {P : Program} {w : World}
/-- nothing is appended to nothing -/
theorem run_append_empty (t ty e : TypeId) (i : TypeInfo) (ht : P.underlying t = some (.slice e)) (hi : P.info? e = some i) (a : Option Addr) (c : Nat) :
    (Builtin.append_ #[t, t] ty #[.slice none 0 0, .slice a 0 c]).run P w = .ok (.slice none 0 0) w := by
  cases a <;> simp [Builtin.append_, run_underlying ht, sizeOf, typeInfo, hi, Builtin.lenOf, Builtin.firstCells, loadCells, loadCellsFrom]
theorem wpList_append_empty {ops : Array Oper} {rest : List Oper} {o : Oper} {act : Act} {Q : Exit → Act → World → Prop} (hgd : o.guard = none) (s x : Operand) (t e : TypeId) (i : TypeInfo)
    (ho : o.op = .call { callee := .builtin .append, args := #[s, x], argTypes := #[t, t] }) (ht : P.underlying t = some (.slice e)) (hi : P.info? e = some i) (a : Option Addr) (c : Nat)
    (hs : act.eval s = .slice none 0 0) (hx : act.eval x = .slice a 0 c) (h : wpList P ops Q rest (act.put o.dst (.slice none 0 0)) w) : wpList P ops Q (o :: rest) act w :=
  wpList_plain hgd fun K hK => by
    unfold Oper.wp execOp
    simp only [ho, resolve, invoke, builtin, Sem.run_bind, Sem.run_pure, Result.andThen_ok, List.map_toArray, List.map_cons, List.map_nil, hs, hx, run_append_empty (w := w) t o.type e i ht hi a c]
    exact hK _ _ h
end
set_option maxRecDepth 20000 in
set_option maxHeartbeats 1000000 in
/-- a list of numbers of its own -/
theorem kclone_ints {B : Nat} {v : Value} {l : List Int} {w : World} (hn : l.length ≤ 1000) (h : RS B w v l.length (ints l)) :
    Calls Try.prog 23 #[v] w fun e w' => ∃ v', e = .returned v' ∧ w'.ownsRow w.heap.size 3 1 v' l.length (ints l) ∧ Below w.heap.size w w' := by
  obtain ⟨a, cap, rfl, hc⟩ := h
  obtain ⟨i0, hi, hz0, hz1, hz2⟩ := info_parts Try.infoInt
  have HI := Lib.hid (And.intro hi (And.intro hz0 (And.intro hz1 hz2)))
  clear hi hz0 hz1 hz2
  by_cases he : ints l = []
  · have e0 : l.length = 0 := by have := congrArg List.length he; simpa [ints] using this
    have HE := Lib.hid he
    rw [e0]
    clear hc he
    go_enter Try.func23, Try.ntmps23
    go_wp2_with (at_builtin; refine wpList_append_empty rfl _ _ 25 3 i0 rfl Try.underlying25 HI.out.1 a cap rfl rfl ?_)
    go_ret
    exact ⟨_, rfl, by rw [HE.out]; exact World.ownsRow_nil _ _ _ _, Below.refl _ _⟩
  · obtain ⟨b, off, rfl, hb, hcell⟩ := hc he
    have HL := Lib.hid hcell
    clear hcell he hc
    obtain ⟨n, hnl⟩ : ∃ n, n = l.length := ⟨_, rfl⟩
    have hn' : n ≤ 1000 := by omega
    rw [← hnl]
    have HN := Lib.hid hnl
    clear hn hnl
    go_enter Try.func23, Try.ntmps23
    go_wp2_with (at_builtin; refine wpList_append_own _ rfl _ _ 25 rfl w.heap.size 3 i0 (.int .i64 0) 1 8 Try.underlying25 HI.out.1 HI.out.2.1 HI.out.2.2.1 HI.out.2.2.2 rfl (by decide) (.slice none 0 0) 0 [] rfl (World.ownsRow_nil _ _ _ _) ⟨b, off, none⟩ n cap (ints l) rfl (by rw [HN.out]; simp [ints]) (fun j u hj => by rw [addr_add]; exact HL.out j u hj) (by intro u hu; simp [ints] at hu; obtain ⟨x, -, rfl⟩ := hu; rfl) (by unfold maxLen; omega) (by omega) (Nat.le_refl _) ?_; intro v' w3 hown3 hgrow _)
    have hB3 : Below w.heap.size w w3 := (Below.refl _ w).grown hgrow (Nat.le_refl _) (fun j e => by cases e)
    clear hgrow
    go_wp2
    go_ret
    exact ⟨_, rfl, by simpa using hown3, hB3⟩
set_option maxRecDepth 20000 in
set_option maxHeartbeats 1000000 in
/-- a list of spans of its own -/
theorem kclone_spans {B : Nat} {v : Value} {l : List (Int × Int)} {w : World} (hn : l.length ≤ 1000) (h : RS B w v l.length (spans l)) :
    Calls Try.prog 22 #[v] w fun e w' => ∃ v', e = .returned v' ∧ w'.ownsRow w.heap.size 28 2 v' l.length (spans l) ∧ Below w.heap.size w w' := by
  obtain ⟨a, cap, rfl, hc⟩ := h
  obtain ⟨i0, hi, hz0, hz1, hz2⟩ := info_parts Try.infoSpan
  have HI := Lib.hid (And.intro hi (And.intro hz0 (And.intro hz1 hz2)))
  clear hi hz0 hz1 hz2
  by_cases he : spans l = []
  · have e0 : l.length = 0 := by have := congrArg List.length he; rw [spans_length] at this; simp at this; omega
    have HE := Lib.hid he
    rw [e0]
    clear hc he
    go_enter Try.func22, Try.ntmps22
    go_wp2_with (at_builtin; refine wpList_append_empty rfl _ _ 26 28 i0 rfl Try.underlying26 HI.out.1 a cap rfl rfl ?_)
    go_ret
    exact ⟨_, rfl, by rw [HE.out]; exact World.ownsRow_nil _ _ _ _, Below.refl _ _⟩
  · obtain ⟨b, off, rfl, hb, hcell⟩ := hc he
    have HL := Lib.hid hcell
    clear hcell he hc
    obtain ⟨n, hnl⟩ : ∃ n, n = l.length := ⟨_, rfl⟩
    have hn' : n ≤ 1000 := by omega
    rw [← hnl]
    have HN := Lib.hid hnl
    clear hn hnl
    go_enter Try.func22, Try.ntmps22
    go_wp2_with (at_builtin; refine wpList_append_own _ rfl _ _ 26 rfl w.heap.size 28 i0 (.agg #[.int .i64 0, .int .i64 0]) 2 16 Try.underlying26 HI.out.1 HI.out.2.1 HI.out.2.2.1 HI.out.2.2.2 rfl (by decide) (.slice none 0 0) 0 [] rfl (World.ownsRow_nil _ _ _ _) ⟨b, off, none⟩ n cap (spans l) rfl (by rw [HN.out]; exact spans_length l) (fun j u hj => by rw [addr_add]; exact HL.out j u hj) (by intro u hu; simp [spans] at hu; obtain ⟨x, y, -, rfl | rfl⟩ := hu <;> rfl) (by unfold maxLen; omega) (by omega) (Nat.le_refl _) ?_; intro v' w3 hown3 hgrow _)
    have hB3 : Below w.heap.size w w3 := (Below.refl _ w).grown hgrow (Nat.le_refl _) (fun j e => by cases e)
    clear hgrow
    go_wp2
    go_ret
    exact ⟨_, rfl, by simpa using hown3, hB3⟩

end Go.Proofs.Ytohjinbgbfggcaa
