/-
  Parts of the proof, in the order in which they build: EyD.
-/
import Derived.Deep.CutRange
import Derived.Test.YtkjcnkkmhkcddaaA48
import Derived.Test.YtkjcnkkmhkcddaaA49
set_option linter.unusedVariables false
set_option linter.unusedSimpArgs false
namespace Go.Proofs.Ytkjcnkkmhkcddaa
open Go.RowKit Go.Shelf
open Lim

attribute [local go_sem] Oper.semAt_some

theorem regL_congr {m : Mp} {r r' : Nat → Nat} (e : ∀ p, p < m.n → r p = r' p) : regL r m.n = regL r' m.n := List.map_congr_left (fun p hp => by rw [e p (List.mem_range.1 hp)])
/-- the answers as data: the error, and the list -/
def IsRegL (wd : Int) (os : List Int) (er : Int) (l : List Int) : Prop := er = errE wd os ∧ l.length ≤ 1000 ∧ (er ≠ 0 → l = []) ∧ (er = 0 → ∃ r k, IsReg ⟨wd.toNat, os⟩ r ∧ IsMany ⟨wd.toNat, os⟩ r k ∧ l = regL r os.length)
def IsDepL (wd : Int) (os : List Int) (er : Int) (l : List Int) : Prop := er = errE wd os ∧ l.length ≤ 1000 ∧ (er ≠ 0 → l = []) ∧ (er = 0 → ∃ r k, IsReg ⟨wd.toNat, os⟩ r ∧ IsMany ⟨wd.toNat, os⟩ r k ∧ l = depL ⟨wd.toNat, os⟩ r k)
def IsArL (wd : Int) (os : List Int) (er : Int) (l : List Int) : Prop := er = errE wd os ∧ l.length ≤ 1000 ∧ (er ≠ 0 → l = []) ∧ (er = 0 → ∃ r k, ∃ A : Nat → Int, IsReg ⟨wd.toNat, os⟩ r ∧ IsMany ⟨wd.toNat, os⟩ r k ∧ (∀ i, i < k → IsAr ⟨wd.toNat, os⟩ r i k (A i)) ∧ l = (List.range k).map A)
section
variable {wd : Int} {os : List Int} {er er' : Int} {l l' : List Int}
theorem IsRegL.unique (h : IsRegL wd os er l) (h' : IsRegL wd os er' l') : er = er' ∧ l = l' := by
  have e : er = er' := h.1.trans h'.1.symm
  subst e
  refine ⟨rfl, ?_⟩
  by_cases h0 : er = 0
  · obtain ⟨r, k, h1, h2, rfl⟩ := h.2.2.2 h0
    obtain ⟨r', k', h3, h4, rfl⟩ := h'.2.2.2 h0
    exact regL_congr (m := ⟨wd.toNat, os⟩) (h1.unique h3)
  · rw [h.2.2.1 h0, h'.2.2.1 h0]
theorem IsDepL.unique (h : IsDepL wd os er l) (h' : IsDepL wd os er' l') : er = er' ∧ l = l' := by
  have e : er = er' := h.1.trans h'.1.symm
  subst e
  refine ⟨rfl, ?_⟩
  by_cases h0 : er = 0
  · obtain ⟨r, k, h1, h2, rfl⟩ := h.2.2.2 h0
    obtain ⟨r', k', h3, h4, rfl⟩ := h'.2.2.2 h0
    obtain ⟨hrr, rfl⟩ := reg_same h1 h3 h2 h4
    exact List.map_congr_left (fun i _ => by rw [inCount_congr hrr])
  · rw [h.2.2.1 h0, h'.2.2.1 h0]
theorem IsArL.unique (h : IsArL wd os er l) (h' : IsArL wd os er' l') : er = er' ∧ l = l' := by
  have e : er = er' := h.1.trans h'.1.symm
  subst e
  refine ⟨rfl, ?_⟩
  by_cases h0 : er = 0
  · obtain ⟨r, k, A, h1, h2, h3, rfl⟩ := h.2.2.2 h0
    obtain ⟨r', k', A', h4, h5, h6, rfl⟩ := h'.2.2.2 h0
    obtain ⟨hrr, rfl⟩ := reg_same h1 h4 h2 h5
    have hm := (errE_ok (h.1.symm.trans h0)).1
    refine List.map_congr_left (fun i hi => ?_)
    have hi := List.mem_range.1 hi
    exact (h3 i hi).unique hm h2.ex ((h6 i hi).congr (fun p hp => (hrr p hp).symm))
  · rw [h.2.2.1 h0, h'.2.2.1 h0]
end
theorem nilR (w : World) : RS w.heap.size w (.slice none 0 0) ([] : List Int).length (ints []) := RS.nil _ _
theorem RegAns.form {wd : Int} {os : List Int} {w w' : World} {e : Ending} (h : RegAns wd os w e w') : ∃ (v : Value) (er : Int) (l : List Int), e = .returned (.tuple #[v, .int .i64 er]) ∧ IsRegL wd os er l ∧ RS w'.heap.size w' v l.length (ints l) ∧ Below w.heap.size w w' := by
  obtain ⟨hb, ⟨he, v, r, k, rfl, hr, hk, ho⟩ | ⟨he, rfl⟩⟩ := h
  · have hn : os.length ≤ 100 := (errE_ok he).1.n1
    exact ⟨v, 0, regL r os.length, rfl, ⟨he.symm, by rw [regL_length]; omega, fun h => absurd rfl h, fun _ => ⟨r, k, hr, hk, rfl⟩⟩, by rw [regL_length]; exact RS.of_owns ho, hb⟩
  · exact ⟨_, _, [], rfl, ⟨rfl, by simp, fun _ => rfl, fun h => absurd h he⟩, nilR _, hb⟩
theorem RRegAns.form {wd : Int} {os : List Int} {w w' : World} {e : Ending} (h : RRegAns wd os w e w') : ∃ (v : Value) (er : Int) (l : List Int), e = .returned (.tuple #[v, .int .i64 er]) ∧ IsRegL wd os er l ∧ RS w'.heap.size w' v l.length (ints l) ∧ Below w.heap.size w w' := by
  obtain ⟨hb, ⟨he, rfl⟩ | ⟨he, v, r, k, rfl, hr, hk, ho⟩⟩ := h
  · exact ⟨_, _, [], rfl, ⟨rfl, by simp, fun _ => rfl, fun h => absurd h he⟩, nilR _, hb⟩
  · have hn : os.length ≤ 100 := (errE_ok he).1.n1
    exact ⟨v, 0, regL r os.length, rfl, ⟨he.symm, by rw [regL_length]; omega, fun h => absurd rfl h, fun _ => ⟨r, k, hr, hk, rfl⟩⟩, by rw [regL_length]; exact ho, hb⟩
theorem DepAns.form {wd : Int} {os : List Int} {w w' : World} {e : Ending} (h : DepAns wd os w e w') : ∃ (v : Value) (er : Int) (l : List Int), e = .returned (.tuple #[v, .int .i64 er]) ∧ IsDepL wd os er l ∧ RS w'.heap.size w' v l.length (ints l) ∧ Below w.heap.size w w' := by
  obtain ⟨hb, ⟨he, v, r, k, rfl, hr, hk, ho⟩ | ⟨he, rfl⟩⟩ := h
  · have hn : os.length ≤ 100 := (errE_ok he).1.n1
    have hkn : k ≤ os.length := hk.le
    have hl : (depL ⟨wd.toNat, os⟩ r k).length = k := by simp [depL]
    exact ⟨v, 0, depL ⟨wd.toNat, os⟩ r k, rfl, ⟨he.symm, by rw [hl]; omega, fun h => absurd rfl h, fun _ => ⟨r, k, hr, hk, rfl⟩⟩, by rw [hl]; exact RS.of_owns ho, hb⟩
  · exact ⟨_, _, [], rfl, ⟨rfl, by simp, fun _ => rfl, fun h => absurd h he⟩, nilR _, hb⟩
theorem ArAns.form {wd : Int} {os : List Int} {w w' : World} {e : Ending} (h : ArAns wd os w e w') : ∃ (v : Value) (er : Int) (l : List Int), e = .returned (.tuple #[v, .int .i64 er]) ∧ IsArL wd os er l ∧ RS w'.heap.size w' v l.length (ints l) ∧ Below w.heap.size w w' := by
  obtain ⟨hb, ⟨he, v, r, k, rfl, hr, hk, A, hA, ho⟩ | ⟨he, rfl⟩⟩ := h
  · have hn : os.length ≤ 100 := (errE_ok he).1.n1
    have hkn : k ≤ os.length := hk.le
    have hl : ((List.range k).map A).length = k := by simp
    exact ⟨v, 0, (List.range k).map A, rfl, ⟨he.symm, by rw [hl]; omega, fun h => absurd rfl h, fun _ => ⟨r, k, A, hr, hk, hA, rfl⟩⟩, by rw [hl]; exact RS.of_owns ho, hb⟩
  · exact ⟨_, _, [], rfl, ⟨rfl, by simp, fun _ => rfl, fun h => absurd h he⟩, nilR _, hb⟩
theorem RDeAns.form {wd : Int} {os : List Int} {w w' : World} {e : Ending} (h : RDeAns wd os w e w') : ∃ (v u : Value) (er : Int) (l j : List Int), e = .returned (.tuple #[v, u, .int .i64 er]) ∧ IsDepL wd os er l ∧ IsArL wd os er j ∧ RS w'.heap.size w' v l.length (ints l) ∧ RS w'.heap.size w' u j.length (ints j) ∧ Below w.heap.size w w' := by
  obtain ⟨hb, ⟨he, rfl⟩ | ⟨he, g1, g2, r, k, A, rfl, hr, hk, hA, h1, h2⟩⟩ := h
  · exact ⟨_, _, _, [], [], rfl, ⟨rfl, by simp, fun _ => rfl, fun h => absurd h he⟩, ⟨rfl, by simp, fun _ => rfl, fun h => absurd h he⟩, nilR _, nilR _, hb⟩
  · have hn : os.length ≤ 100 := (errE_ok he).1.n1
    have hkn : k ≤ os.length := hk.le
    have hl : ((List.range k).map A).length = k := by simp
    have hl2 : (depL ⟨wd.toNat, os⟩ r k).length = k := by simp [depL]
    exact ⟨_, _, 0, depL ⟨wd.toNat, os⟩ r k, (List.range k).map A, rfl, ⟨he.symm, by rw [hl2]; omega, fun h => absurd rfl h, fun _ => ⟨r, k, hr, hk, rfl⟩⟩, ⟨he.symm, by rw [hl]; omega, fun h => absurd rfl h, fun _ => ⟨r, k, A, hr, hk, hA, rfl⟩⟩, by rw [hl2]; exact h1, by rw [hl]; exact h2, hb⟩
set_option maxRecDepth 20000 in
set_option maxHeartbeats 8000000 in
theorem regionsl_any {B : Nat} {wd : Int} {ov : Value} {os : List Int} {w : World} (hB : B ≤ w.heap.size) (hv : RS B w ov os.length (ints os)) :
    Calls Try.prog 5 #[.agg #[.int .i64 wd, ov]] w fun e w' => e = .returned (.bool true) ∧ Below w.heap.size w w' := by
  have HV := Lib.hid (And.intro hB hv)
  obtain ⟨oa, oc, rfl, -⟩ := hv
  have f0 : (w.alloc (.cells #[.int .i64 wd, .slice oa os.length oc] 24)).cell? ⟨w.heap.size, 0, none⟩ = some (.int .i64 wd) := by simp [go_sem]
  have f1 : (w.alloc (.cells #[.int .i64 wd, .slice oa os.length oc] 24)).cell? ⟨w.heap.size, 1, none⟩ = some (.slice oa os.length oc) := by simp [go_sem]
  have HB := Lib.hid ((Below.refl w.heap.size w).alloc (Nat.le_refl _) (.cells #[.int .i64 wd, .slice oa os.length oc] 24))
  clear hB
  obtain ⟨n, hn⟩ : ∃ n, n = os.length := ⟨_, rfl⟩
  have HN := Lib.hid hn
  rw [← hn] at f0 f1 HB ⊢
  clear hn
  go_enter Try.func5, Try.ntmps5
  go_wp2_with fail
  generalize w.alloc (.cells #[.int .i64 wd, .slice oa n oc] 24) = w1 at HB f0 f1 ⊢
  obtain ⟨q4, hq4⟩ : ∃ q, q = w.heap.size := ⟨_, rfl⟩
  rw [← hq4] at f0 f1 ⊢
  clear hq4
  refine (great_any _).mono ?_
  rintro e w2 ⟨rfl, rfl⟩
  cases hg : greatB n with
  | true =>
    clear hg
    go_wp2_with fail
    refine (awake_any _).mono ?_
    rintro e w3 ⟨rfl, hb⟩
    have HB3 := Lib.hid (HB.out.trans (hb.mono HB.out.size))
    clear hb
    go_wp2
    go_ret
    exact ⟨rfl, HB3.out⟩
  | false =>
  have hn110 : n ≤ 110 := by
    unfold greatB at hg
    simp at hg
    omega
  clear hg
  have HQ4 : Hid (q4 < w2.drew.heap.size) := Lib.hid (World.block_lt_of_cell? _ _ f0)
  have HCA : Hid (∀ W, Below w2.drew.heap.size w2.drew W → Calls Try.prog 13 #[.agg #[.int .i64 wd, .slice oa n oc]] W fun e w' => ∃ v, e = .returned (.agg #[.int .i64 wd, v]) ∧ w'.ownsRow W.heap.size 3 1 v os.length (ints os) ∧ Below W.heap.size W w') := Lib.hid fun W hW => by
    have hw : Below w.heap.size w W := HB.out.drew.trans (hW.mono HB.out.drew.size)
    rw [HN.out]; exact lClone_any (by rw [← HN.out]; omega) (Nat.le_trans HV.out.1 hw.size) (HV.out.2.below (hw.mono HV.out.1))
  have HCB : Hid (∀ W, Below w2.drew.heap.size w2.drew W → Calls Try.prog 14 #[.agg #[.int .i64 wd, .slice oa n oc]] W fun e w' => ∃ v, e = .returned (.agg #[.int .i64 wd, v]) ∧ w'.ownsRow W.heap.size 3 1 v os.length (ints os) ∧ Below W.heap.size W w') := Lib.hid fun W hW => by
    have hw : Below w.heap.size w W := HB.out.drew.trans (hW.mono HB.out.drew.size)
    rw [HN.out]; exact lMap_any (by rw [← HN.out]; omega) (Nat.le_trans HV.out.1 hw.size) (HV.out.2.below (hw.mono HV.out.1))
  go_upto_region 3 with (fail)
  have hC : (fun W => W.cell? ⟨q4, 0, none⟩ = some (.int .i64 wd) ∧ W.cell? ⟨q4, 1, none⟩ = some (.slice oa n oc)) w2.drew := ⟨f0, f1⟩
  refine Lim.regC' (fun W => W.cell? ⟨q4, 0, none⟩ = some (.int .i64 wd) ∧ W.cell? ⟨q4, 1, none⟩ = some (.slice oa n oc)) [] #[false, false, false, false, false, false, false, false] (by kernel_rfl) rfl ?_
  refine Lim.stepR 0 (fun _ => trivial) rfl (by kernel_rfl) (fun _ _ _ _ h => h) hC rfl ?_; apply Exists.intro; refine ⟨?_, ?_⟩
  · rintro w ⟨r0, r1⟩; go_simp; try with_reducible rfl
  simp only [Act.put, List.setIfInBounds_toArray, List.set_cons_succ, List.set_cons_zero]
  refine Lim.stepR 2 (fun _ => trivial) rfl (by kernel_rfl) (fun _ _ _ _ h => h) hC rfl ?_; apply Exists.intro; refine ⟨?_, ?_⟩
  · rintro w ⟨r0, r1⟩; go_simp; try with_reducible rfl
  simp only [Act.put, List.setIfInBounds_toArray, List.set_cons_succ, List.set_cons_zero]
  clear hC
  refine Lim.parC [1, 3, 4, 5, 6, 7] (fun done a W => ∃ xA xB yA yB, a = { tmps := #[.agg #[.int .i64 wd, .slice oa n oc], .pointer (some ⟨q4, 0, none⟩), .bool false, yA, yB, undef, undef, undef, undef, undef, undef, undef, .pointer (some ⟨q4, 1, none⟩), .slice oa n oc, .bool false, undef, .agg #[.int .i64 wd, .slice oa n oc], xA, .agg #[.int .i64 wd, .slice oa n oc], xB, undef, undef, undef, undef, undef, undef, undef, undef, undef, undef, undef, undef, undef, undef, undef, undef, undef, undef, undef, undef, undef, undef, undef, undef, undef, undef, undef, undef, undef, undef, undef, undef, undef, undef, undef, undef, undef, undef, undef, undef, undef, undef, undef, undef, undef, undef, undef, undef, undef, undef, undef, undef, undef, undef, undef, undef, undef, undef, undef, undef, undef, undef, undef, undef, undef, undef], defers := [] } ∧ CloP w2.drew wd os [] (done 1) (done 3) (false) (done 4) (done 5) (done 6) (done 7) xA xB (.slice none 0 0) yA yB W ∧ (fun W => W.cell? ⟨q4, 0, none⟩ = some (.int .i64 wd) ∧ W.cell? ⟨q4, 1, none⟩ = some (.slice oa n oc)) W) (fun _ => trivial) (by kernel_rfl) rfl rfl ?hC ?step ?fin ⟨_, _, _, _, rfl, ?st, ⟨f0, f1⟩⟩
  case st => exact ⟨(Below.refl _ _), fun h => (by cases h), fun h => (by cases h), fun h => (by cases h), fun h => (by cases h), fun h => (by cases h), fun h => (by cases h), fun h => (by cases h)⟩
  case hC => rintro done a W ⟨_, _, _, _, -, -, hc⟩; exact hc
  case step =>
    intro i o hi ho done a W hd hdep hS K hK
    obtain ⟨xA, xB, yA, yB, rfl, H, hc⟩ := hS
    obtain ⟨hc0, hc1⟩ := hc
    simp only [List.mem_cons, List.not_mem_nil, or_false] at hi
    rcases hi with rfl | rfl | rfl | rfl | rfl | rfl
    · cases ho
      clear hdep
      go_simp
      refine ⟨rfl, (callsIn_wide.2 (HCA.out W H.be)).mono ?_⟩
      rintro e W' ⟨v, rfl, ho, hb⟩
      refine hK _ _ ?_
      exact ⟨_, xB, yA, yB, rfl, H.callA hd hb ho, ⟨hb.on hc0, hb.on hc1⟩⟩
    · cases ho
      clear hdep
      go_simp
      refine ⟨rfl, (callsIn_wide.2 (HCB.out W H.be)).mono ?_⟩
      rintro e W' ⟨v, rfl, ho, hb⟩
      refine hK _ _ ?_
      exact ⟨xA, _, yA, yB, rfl, H.callB hd hb ho, ⟨hb.on hc0, hb.on hc1⟩⟩
    · cases ho
      clear hdep
      go_simp
      refine hK _ _ ?_
      have hb : Below W.heap.size W (W.alloc (.cells #[.int .i64 0, .slice none 0 0] 24)) := (Below.refl _ W).alloc (Nat.le_refl _) _
      exact ⟨xA, xB, _, yB, rfl, H.boxA hd _ _, ⟨hb.on hc0, hb.on hc1⟩⟩
    · cases ho
      clear hdep
      go_simp
      refine hK _ _ ?_
      have hb : Below W.heap.size W (W.alloc (.cells #[.int .i64 0, .slice none 0 0] 28)) := (Below.refl _ W).alloc (Nat.le_refl _) _
      exact ⟨xA, xB, yA, _, rfl, H.boxB hd _ _, ⟨hb.on hc0, hb.on hc1⟩⟩
    · cases ho
      have hcl := hdep 1 (by kernel_rfl) (by simp)
      have hl := hdep 4 (by kernel_rfl) (by simp)
      clear hdep
      obtain ⟨v, rfl, ho⟩ := H.cA hcl
      obtain ⟨ga, gc, rfl, -⟩ := RS.of_owns ho
      obtain ⟨qb, b0, b1, rfl, hge, hq, -⟩ := H.aA hl
      obtain ⟨⟨z0, z1⟩, z2, z3⟩ := two_cells hq
      have HPU := Lib.hid ((H.putA (c := .int .i64 wd) (d := .slice ga os.length gc) hcl hl hq hge).resolve_right (fun h => h rfl))
      have HNQ : Hid (q4 ≠ qb) := Lib.hid (by have h1 : q4 < w2.drew.heap.size := HQ4.out; omega)
      have HGE := Lib.hid hge
      clear ho hq hge
      go_simp
      refine hK _ _ ?_
      exact ⟨_, xB, _, yB, rfl, HPU.out, ⟨(setCell_far _ _ HNQ.out.symm).trans ((setCell_far _ _ HNQ.out.symm).trans hc0), (setCell_far _ _ HNQ.out.symm).trans ((setCell_far _ _ HNQ.out.symm).trans hc1)⟩⟩
    · cases ho
      have hcl := hdep 3 (by kernel_rfl) (by simp)
      have hl := hdep 5 (by kernel_rfl) (by simp)
      clear hdep
      obtain ⟨v, rfl, ho⟩ := H.cB hcl
      obtain ⟨ga, gc, rfl, -⟩ := RS.of_owns ho
      obtain ⟨qb, b0, b1, rfl, hge, hq, -⟩ := H.aB hl
      obtain ⟨⟨z0, z1⟩, z2, z3⟩ := two_cells hq
      have HPU := Lib.hid ((H.putB (c := .int .i64 wd) (d := .slice ga os.length gc) hcl hl hq hge).resolve_right (fun h => h rfl))
      have HNQ : Hid (q4 ≠ qb) := Lib.hid (by have h1 : q4 < w2.drew.heap.size := HQ4.out; omega)
      have HGE := Lib.hid hge
      clear ho hq hge
      go_simp
      refine hK _ _ ?_
      exact ⟨xA, _, yA, _, rfl, HPU.out, ⟨(setCell_far _ _ HNQ.out.symm).trans ((setCell_far _ _ HNQ.out.symm).trans hc0), (setCell_far _ _ HNQ.out.symm).trans ((setCell_far _ _ HNQ.out.symm).trans hc1)⟩⟩
  case fin =>
    rintro done a W hall ⟨xA, xB, yA, yB, rfl, H, hc⟩
    have D : ∀ i, i ∈ [1, 3, 4, 5, 6, 7] → done i = true := hall
    obtain ⟨v1, rfl, hv1⟩ := H.cA (hall 1 (by simp))
    obtain ⟨v3, rfl, hv3⟩ := H.cB (hall 3 (by simp))
    obtain ⟨q9, a9, b9, rfl, -, hq9, hs9⟩ := H.aA (hall 4 (by simp))
    obtain ⟨q11, a11, b11, rfl, -, hq11, hs11⟩ := H.aB (hall 5 (by simp))
    have e1 := hs9 (hall 6 (by simp))
    have e2 := hs11 (hall 7 (by simp))
    simp only [Value.agg.injEq, Array.mk.injEq, List.cons.injEq, and_true] at e1 e2
    obtain ⟨rfl, rfl⟩ := e1
    obtain ⟨rfl, rfl⟩ := e2
    have hbe := H.be
    obtain ⟨⟨k0, k1⟩, -, -⟩ := two_cells hq9
    obtain ⟨⟨l0, l1⟩, -, -⟩ := two_cells hq11
    obtain ⟨m0, m1⟩ := hc
    clear H hall D hs9 hs11 hq9 hq11
    obtain ⟨g1, c1, rfl, -⟩ := RS.of_owns hv1
    obtain ⟨g3, c3, rfl, -⟩ := RS.of_owns hv3
    have HR1 := Lib.hid (RS.of_owns hv1)
    have HR3 := Lib.hid (RS.of_owns hv3)
    have HB := Lib.hid (HB.out.drew.trans (hbe.mono HB.out.drew.size))
    have H110 : Hid (os.length ≤ 110) := Lib.hid (by rw [← HN.out]; exact hn110)
    obtain rfl : n = os.length := HN.out
    clear hv1 hv3 hbe HCA HCB HN hn110
    obtain ⟨w20, rfl⟩ : ∃ x, x = W := ⟨_, rfl⟩
    go_upto_region 4 with (fail)
    have hC : (fun W => W.cell? ⟨q9, 0, none⟩ = some (.int .i64 wd) ∧ W.cell? ⟨q9, 1, none⟩ = some (.slice g1 os.length c1) ∧ W.cell? ⟨q11, 0, none⟩ = some (.int .i64 wd) ∧ W.cell? ⟨q11, 1, none⟩ = some (.slice g3 os.length c3)) w20.drew := ⟨k0, k1, l0, l1⟩
    clear k0 k1 l0 l1
    refine Lim.regC' (fun W => W.cell? ⟨q9, 0, none⟩ = some (.int .i64 wd) ∧ W.cell? ⟨q9, 1, none⟩ = some (.slice g1 os.length c1) ∧ W.cell? ⟨q11, 0, none⟩ = some (.int .i64 wd) ∧ W.cell? ⟨q11, 1, none⟩ = some (.slice g3 os.length c3)) [] #[false, false, false, false, false] (by kernel_rfl) rfl ?_
    refine Lim.stepR 0 (fun _ => trivial) rfl (by kernel_rfl) (fun _ _ _ _ h => h) hC rfl ?_; apply Exists.intro; refine ⟨?_, ?_⟩
    · rintro w ⟨r1, r2, r3, r4⟩; go_simp; try with_reducible rfl
    simp only [Act.put, List.setIfInBounds_toArray, List.set_cons_succ, List.set_cons_zero]
    refine Lim.stepR 2 (fun _ => trivial) rfl (by kernel_rfl) (fun _ _ _ _ h => h) hC rfl ?_; apply Exists.intro; refine ⟨?_, ?_⟩
    · rintro w ⟨r1, r2, r3, r4⟩; go_simp; try with_reducible rfl
    simp only [Act.put, List.setIfInBounds_toArray, List.set_cons_succ, List.set_cons_zero]
    refine Lim.stepE 1 (fun _ => trivial) rfl (by kernel_rfl) rfl (fun K hK => ?_)   -- E call
    go_simp
    refine ⟨rfl, (callsIn_wide.2 (Check_any (wd := wd) (w := w20.drew) (by have := H110.out; omega) (Nat.le_refl _) (HR1.out.below (Below.refl _ _).drew))).mono ?_⟩
    rintro e w20b ⟨rfl, hb⟩
    have hC1 : (fun W => W.cell? ⟨q9, 0, none⟩ = some (.int .i64 wd) ∧ W.cell? ⟨q9, 1, none⟩ = some (.slice g1 os.length c1) ∧ W.cell? ⟨q11, 0, none⟩ = some (.int .i64 wd) ∧ W.cell? ⟨q11, 1, none⟩ = some (.slice g3 os.length c3)) w20b := ⟨hb.on hC.1, hb.on hC.2.1, hb.on hC.2.2.1, hb.on hC.2.2.2⟩
    have hb := ((Below.refl _ w20).drew.trans hb)
    have HB := Lib.hid (HB.out.trans (hb.mono HB.out.size))
    have HR1 := Lib.hid (RS.on HR1.out hb)
    have HR3 := Lib.hid (RS.on HR3.out hb)
    have m0 := hb.on m0
    have m1 := hb.on m1
    clear hb
    refine hK _ _ hC1 ?_
    simp only [Act.put, List.setIfInBounds_toArray, List.set_cons_succ, List.set_cons_zero]
    refine Lim.stepE 3 (fun _ => trivial) rfl (by kernel_rfl) rfl (fun K hK => ?_)   -- E call
    go_simp
    refine ⟨rfl, (callsIn_wide.2 (rCheck_any (wd := wd) (w := w20b) (by have := H110.out; omega) (Nat.le_refl _) HR3.out)).mono ?_⟩
    rintro e w21 ⟨rfl, hb⟩
    have hC2 : (fun W => W.cell? ⟨q9, 0, none⟩ = some (.int .i64 wd) ∧ W.cell? ⟨q9, 1, none⟩ = some (.slice g1 os.length c1) ∧ W.cell? ⟨q11, 0, none⟩ = some (.int .i64 wd) ∧ W.cell? ⟨q11, 1, none⟩ = some (.slice g3 os.length c3)) w21 := ⟨hb.on hC1.1, hb.on hC1.2.1, hb.on hC1.2.2.1, hb.on hC1.2.2.2⟩
    have hb := hb
    have HB := Lib.hid (HB.out.trans (hb.mono HB.out.size))
    have HR1 := Lib.hid (RS.on HR1.out hb)
    have HR3 := Lib.hid (RS.on HR3.out hb)
    have m0 := hb.on m0
    have m1 := hb.on m1
    clear hb
    refine hK _ _ hC2 ?_
    simp only [Act.put, List.setIfInBounds_toArray, List.set_cons_succ, List.set_cons_zero]
    refine Lim.stepR 4 (fun _ => trivial) rfl (by kernel_rfl) (fun _ _ _ _ h => h) hC2 rfl ?_; apply Exists.intro; refine ⟨?_, ?_⟩
    · rintro w ⟨r1, r2, r3, r4⟩; go_simp; try with_reducible rfl
    simp only [Act.put, List.setIfInBounds_toArray, List.set_cons_succ, List.set_cons_zero]
    refine Lim.stepD (by kernel_rfl) ?_
    obtain ⟨k0, k1, l0, l1⟩ := hC2
    clear hC hC1
    obtain ⟨er0, her0⟩ : ∃ x, x = errE wd os := ⟨_, rfl⟩
    have d0 : (er0 != er0) = false := by simp
    simp only [← her0]
    clear her0
    go_wp2_with fail
    refine (Regions_any (wd := wd) (by have := H110.out; omega) (Nat.le_refl _) HR1.out).mono ?_
    rintro e w22 h
    obtain ⟨v, er, l, rfl, hi, hr, hb⟩ := h.form
    have HI1 := Lib.hid hi
    have HL1 := Lib.hid hr
    obtain ⟨va, vc, rfl, -⟩ := hr
    clear h hi
    have HB := Lib.hid (HB.out.trans (hb.mono HB.out.size))
    have HR1 := Lib.hid (RS.on HR1.out hb)
    have HR3 := Lib.hid (RS.on HR3.out hb)
    replace k0 := hb.on k0
    replace k1 := hb.on k1
    replace l0 := hb.on l0
    replace l1 := hb.on l1
    replace m0 := hb.on m0
    replace m1 := hb.on m1
    clear hb
    go_wp2_with fail
    refine (rRegions_any (wd := wd) (by have := H110.out; omega) (Nat.le_refl _) HR3.out).mono ?_
    rintro e w23 h
    obtain ⟨v, er2, l2, rfl, hi, hr, hb⟩ := h.form
    obtain ⟨rfl, rfl⟩ := HI1.out.unique hi
    have HL2 := Lib.hid hr
    obtain ⟨ua, uc, rfl, -⟩ := hr
    clear h hi
    have HB := Lib.hid (HB.out.trans (hb.mono HB.out.size))
    have HR1 := Lib.hid (RS.on HR1.out hb)
    have HR3 := Lib.hid (RS.on HR3.out hb)
    have HL1 := Lib.hid (RS.on HL1.out hb)
    replace k0 := hb.on k0
    replace k1 := hb.on k1
    replace l0 := hb.on l0
    replace l1 := hb.on l1
    replace m0 := hb.on m0
    replace m1 := hb.on m1
    clear hb
    go_wp2_with fail
    refine (c_eq (l := l) HI1.out.2.1 rfl HL1.out HL2.out).mono ?_
    rintro e w24 ⟨rfl, hb⟩
    have HB := Lib.hid (HB.out.trans (hb.mono HB.out.size))
    have HR1 := Lib.hid (RS.on HR1.out hb)
    have HR3 := Lib.hid (RS.on HR3.out hb)
    have HL1 := Lib.hid (RS.on HL1.out hb)
    have HL2 := Lib.hid (RS.on HL2.out hb)
    replace k0 := hb.on k0
    replace k1 := hb.on k1
    replace l0 := hb.on l0
    replace l1 := hb.on l1
    replace m0 := hb.on m0
    replace m1 := hb.on m1
    clear hb
    clear HL1 HL2 HI1
    go_wp2_with fail
    refine (rDepths_any (wd := wd) (by have := H110.out; omega) (Nat.le_refl _) HR3.out).mono ?_
    rintro e w25 h
    obtain ⟨v, v', er3, l3, l4, rfl, hi, hi2, hr, hr2, hb⟩ := h.form
    have HI3 := Lib.hid hi
    have HI4 := Lib.hid hi2
    have HL3 := Lib.hid hr
    obtain ⟨pa, pc, rfl, -⟩ := hr
    have HL4 := Lib.hid hr2
    obtain ⟨xa, xc, rfl, -⟩ := hr2
    clear h hi hi2
    have HB := Lib.hid (HB.out.trans (hb.mono HB.out.size))
    have HR1 := Lib.hid (RS.on HR1.out hb)
    have HR3 := Lib.hid (RS.on HR3.out hb)
    replace k0 := hb.on k0
    replace k1 := hb.on k1
    replace l0 := hb.on l0
    replace l1 := hb.on l1
    replace m0 := hb.on m0
    replace m1 := hb.on m1
    clear hb
    go_wp2_with fail
    refine (Depths_any (wd := wd) (by have := H110.out; omega) (Nat.le_refl _) HR1.out).mono ?_
    rintro e w26 h
    obtain ⟨v, er4, l5, rfl, hi, hr, hb⟩ := h.form
    obtain ⟨rfl, rfl⟩ := HI3.out.unique hi
    have HL5 := Lib.hid hr
    obtain ⟨ya, yc, rfl, -⟩ := hr
    clear h hi
    have HB := Lib.hid (HB.out.trans (hb.mono HB.out.size))
    have HR1 := Lib.hid (RS.on HR1.out hb)
    have HR3 := Lib.hid (RS.on HR3.out hb)
    have HL3 := Lib.hid (RS.on HL3.out hb)
    have HL4 := Lib.hid (RS.on HL4.out hb)
    replace k0 := hb.on k0
    replace k1 := hb.on k1
    replace l0 := hb.on l0
    replace l1 := hb.on l1
    replace m0 := hb.on m0
    replace m1 := hb.on m1
    clear hb
    go_wp2_with fail
    refine (Around_any (wd := wd) (by have := H110.out; omega) (Nat.le_refl _) HR1.out).mono ?_
    rintro e w27 h
    obtain ⟨v, er5, l6, rfl, hi, hr, hb⟩ := h.form
    obtain ⟨rfl, rfl⟩ := HI4.out.unique hi
    have HL6 := Lib.hid hr
    obtain ⟨za, zc, rfl, -⟩ := hr
    clear h hi
    have HB := Lib.hid (HB.out.trans (hb.mono HB.out.size))
    have HR1 := Lib.hid (RS.on HR1.out hb)
    have HR3 := Lib.hid (RS.on HR3.out hb)
    have HL3 := Lib.hid (RS.on HL3.out hb)
    have HL4 := Lib.hid (RS.on HL4.out hb)
    have HL5 := Lib.hid (RS.on HL5.out hb)
    replace k0 := hb.on k0
    replace k1 := hb.on k1
    replace l0 := hb.on l0
    replace l1 := hb.on l1
    replace m0 := hb.on m0
    replace m1 := hb.on m1
    clear hb
    go_wp2_with fail
    refine (c_eq (l := l3) HI3.out.2.1 rfl HL5.out HL3.out).mono ?_
    rintro e w28 ⟨rfl, hb⟩
    have HB := Lib.hid (HB.out.trans (hb.mono HB.out.size))
    have HR1 := Lib.hid (RS.on HR1.out hb)
    have HR3 := Lib.hid (RS.on HR3.out hb)
    have HL3 := Lib.hid (RS.on HL3.out hb)
    have HL4 := Lib.hid (RS.on HL4.out hb)
    have HL5 := Lib.hid (RS.on HL5.out hb)
    have HL6 := Lib.hid (RS.on HL6.out hb)
    replace k0 := hb.on k0
    replace k1 := hb.on k1
    replace l0 := hb.on l0
    replace l1 := hb.on l1
    replace m0 := hb.on m0
    replace m1 := hb.on m1
    clear hb
    go_wp2_with fail
    refine (c_eq (l := l4) HI4.out.2.1 rfl HL6.out HL4.out).mono ?_
    rintro e w29 ⟨rfl, hb⟩
    have HB := Lib.hid (HB.out.trans (hb.mono HB.out.size))
    have HR1 := Lib.hid (RS.on HR1.out hb)
    have HR3 := Lib.hid (RS.on HR3.out hb)
    have HL3 := Lib.hid (RS.on HL3.out hb)
    have HL4 := Lib.hid (RS.on HL4.out hb)
    have HL5 := Lib.hid (RS.on HL5.out hb)
    have HL6 := Lib.hid (RS.on HL6.out hb)
    replace k0 := hb.on k0
    replace k1 := hb.on k1
    replace l0 := hb.on l0
    replace l1 := hb.on l1
    replace m0 := hb.on m0
    replace m1 := hb.on m1
    clear hb
    go_wp2_with fail
    refine (same_any (B1 := w29.heap.size) (B2 := B) (os := os) (by have := H110.out; omega) (Nat.le_refl _) (Nat.le_trans HV.out.1 HB.out.size) HR1.out (by have h := HV.out.2.below (HB.out.mono HV.out.1); exact h)).mono ?_
    rintro e w30 ⟨rfl, hb⟩
    have HB := Lib.hid (HB.out.trans (hb.mono HB.out.size))
    have HR1 := Lib.hid (RS.on HR1.out hb)
    have HR3 := Lib.hid (RS.on HR3.out hb)
    have HL3 := Lib.hid (RS.on HL3.out hb)
    have HL4 := Lib.hid (RS.on HL4.out hb)
    have HL5 := Lib.hid (RS.on HL5.out hb)
    have HL6 := Lib.hid (RS.on HL6.out hb)
    replace k0 := hb.on k0
    replace k1 := hb.on k1
    replace l0 := hb.on l0
    replace l1 := hb.on l1
    replace m0 := hb.on m0
    replace m1 := hb.on m1
    clear hb
    go_wp2_with fail
    refine (awake_any _).mono ?_
    rintro e w31 ⟨rfl, hb⟩
    have HB := Lib.hid (HB.out.trans (hb.mono HB.out.size))
    have HR1 := Lib.hid (RS.on HR1.out hb)
    have HR3 := Lib.hid (RS.on HR3.out hb)
    have HL3 := Lib.hid (RS.on HL3.out hb)
    have HL4 := Lib.hid (RS.on HL4.out hb)
    have HL5 := Lib.hid (RS.on HL5.out hb)
    have HL6 := Lib.hid (RS.on HL6.out hb)
    replace k0 := hb.on k0
    replace k1 := hb.on k1
    replace l0 := hb.on l0
    replace l1 := hb.on l1
    replace m0 := hb.on m0
    replace m1 := hb.on m1
    clear hb
    go_wp2
    go_ret
    exact ⟨rfl, HB.out⟩
end Go.Proofs.Ytkjcnkkmhkcddaa
