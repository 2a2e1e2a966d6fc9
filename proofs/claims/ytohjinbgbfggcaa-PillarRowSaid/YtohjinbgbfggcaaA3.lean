/-
  Parts of the proof, in the order in which they build: PiG.
-/
import Derived.Deep.CutRange
import Derived.Test.YtohjinbgbfggcaaA2
set_option linter.unusedVariables false
set_option linter.unusedSimpArgs false
namespace Go.Proofs.Ytohjinbgbfggcaa
open Go.RowKit Go.Shelf
open Lim

/-- what short reads -/
def ShC (f g : Value) (q b : Nat) (p : Pf) (av gv : Value) (gb go i j k : Nat) (W : World) : Prop :=
  PfC W b p av gv ∧ (W.cell? ⟨q, 0, none⟩ = some f ∧ W.cell? ⟨q, 1, none⟩ = some g) ∧
  (W.cell? ⟨gb, go + i * 2, none⟩ = some (.int .i64 (p.g i).1) ∧ W.cell? ⟨gb, go + i * 2 + 1, none⟩ = some (.int .i64 (p.g i).2)) ∧
  (W.cell? ⟨gb, go + j * 2, none⟩ = some (.int .i64 (p.g j).1) ∧ W.cell? ⟨gb, go + j * 2 + 1, none⟩ = some (.int .i64 (p.g j).2)) ∧
  (W.cell? ⟨gb, go + k * 2, none⟩ = some (.int .i64 (p.g k).1) ∧ W.cell? ⟨gb, go + k * 2 + 1, none⟩ = some (.int .i64 (p.g k).2))
theorem ShC.grow {f g : Value} {q b : Nat} {p : Pf} {av gv : Value} {gb go i j k : Nat} {W W' : World} (h : ShC f g q b p av gv gb go i j k W) (hb : Below W.heap.size W W') : ShC f g q b p av gv gb go i j k W' :=
  ⟨h.1.grow hb, ⟨hb.on h.2.1.1, hb.on h.2.1.2⟩, ⟨hb.on h.2.2.1.1, hb.on h.2.2.1.2⟩, ⟨hb.on h.2.2.2.1.1, hb.on h.2.2.2.1.2⟩, ⟨hb.on h.2.2.2.2.1, hb.on h.2.2.2.2.2⟩⟩
set_option maxRecDepth 20000 in
set_option maxHeartbeats 2000000 in
theorem short_worst {p : Pf} {b n ab ao ac gb go gc i j k : Nat} {w : World} (hp : p.Ok) (hn : n = p.n) (hik : i < k) (hkj : k < j) (hj : j < n) (hc : PfC w b p (.slice (some ⟨ab, ao, none⟩) n ac) (.slice (some ⟨gb, go, none⟩) n gc)) (hl : PfL w.heap.size w p ab ao ac gb go gc) :
    Calls Try.prog 45 #[.pointer (some ⟨b, 0, none⟩), .int .i64 i, .int .i64 j, .int .i64 k, .agg #[.func (.func 47) #[] #[], .func (.func 46) #[] #[]]] w fun e w' => e = .returned (.int .i64 (p.short false true i j k)) ∧ Below w.heap.size w w' := by
  have hgn : p.gr.length = n := by rw [hp.gn, hn]
  have han : p.ats.length = n := hn.symm
  have n40 : n ≤ 40 := by rw [hn]; exact hp.n40
  have A1 := hp.lt hik (by omega : k < p.n)
  have A2 := hp.lt hkj (by omega : j < p.n)
  have A3 := hp.ats i (by omega)
  have A4 := hp.ats j (by omega)
  have G1 := hp.gr i (by omega)
  have G2 := hp.gr j (by omega)
  have G3 := hp.gr k (by omega)
  have T1 := hp.tall
  have B1 := hp.bend
  obtain ⟨s1, m1, s2, m2, ln, u1, u2, u3, u4, u9, u5, u6, r, z1, z2, z3, z4, z5, z6, z7, z8, z9, z10, z11, z12, z13, hr⟩ := short_nums (a := p.a k - p.a i) (b := p.a j - p.a k) (hi := endOf false (p.g i)) (hj := endOf false (p.g j)) (tl := p.tall) (gk := endOf true (p.g k)) (bd := endOf true p.bend) (by omega) (by omega) (by omega) (by unfold endOf; simp; omega) (by unfold endOf; simp; omega) T1 (by unfold endOf; simp; omega) (by unfold endOf Pf.bend; simp; omega)
  have hres : p.short false true i j k = r := hr.symm
  rw [hres]
  have hb0 : Below w.heap.size w (w.alloc (.cells #[.func (.func 47) #[] #[], .func (.func 46) #[] #[]] 65)) := (Below.refl _ w).alloc (Nat.le_refl _) _
  have HBw1 := Lib.hid hb0
  have hC0 : ShC (.func (.func 47) #[] #[]) (.func (.func 46) #[] #[]) w.heap.size b p (.slice (some ⟨ab, ao, none⟩) n ac) (.slice (some ⟨gb, go, none⟩) n gc) gb go i j k (w.alloc (.cells #[.func (.func 47) #[] #[], .func (.func 46) #[] #[]] 65)) :=
    ⟨hc.grow hb0, ⟨by simp [go_sem], by simp [go_sem]⟩, ⟨hb0.on (hl.cg i (by omega)).1, hb0.on (hl.cg i (by omega)).2⟩, ⟨hb0.on (hl.cg j (by omega)).1, hb0.on (hl.cg j (by omega)).2⟩, ⟨hb0.on (hl.cg k (by omega)).1, hb0.on (hl.cg k (by omega)).2⟩⟩
  have HC0 := Lib.hid hC0
  have ka := hb0.on (hl.ca i (by omega))
  have kb := hb0.on (hl.ca j (by omega))
  have kc := hb0.on (hl.ca k (by omega))
  obtain ⟨k0, k1, k2, k3, k4⟩ := hC0.1
  obtain ⟨xi, hxi⟩ : ∃ x, x = p.a i := ⟨_, rfl⟩
  obtain ⟨xj, hxj⟩ : ∃ x, x = p.a j := ⟨_, rfl⟩
  obtain ⟨xk, hxk⟩ : ∃ x, x = p.a k := ⟨_, rfl⟩
  obtain ⟨a, ha⟩ : ∃ a, a = xk - xi := ⟨_, rfl⟩
  obtain ⟨bb, hbb⟩ : ∃ a, a = xj - xk := ⟨_, rfl⟩
  rw [← hxi, ← hxk] at A1
  rw [← hxk, ← hxj] at A2
  rw [← hxi] at A3
  rw [← hxj] at A4
  simp only [endOf, Pf.bend, Bool.false_eq_true, if_false, if_true] at z1 z3 z6 z7
  rw [← hxi, ← hxk] at z4 z7
  rw [← hxj, ← hxk] at z2 z8
  rw [← hxi, ← hxj, ← hxk] at z10
  rw [← hxi] at ka
  rw [← hxj] at kb
  rw [← hxk] at kc
  rw [← ha] at z4 z7
  rw [← hbb] at z2 z8
  rw [← ha, ← hbb] at z10
  have ewa : IntKind.i64.wrap (xk - xi) = a := by rw [ha]; exact IntWalk.i64_in _ (by omega)
  have ewb : IntKind.i64.wrap (xj - xk) = bb := by rw [hbb]; exact IntWalk.i64_in _ (by omega)
  have hi1 : (i : Int) < (n : Int) := by omega
  have hi2 : (j : Int) < (n : Int) := by omega
  have hi3 : (k : Int) < (n : Int) := by omega
  have HZ := Lib.hid (And.intro z1 (And.intro z2 (And.intro z3 (And.intro z4 (And.intro z5 (And.intro z6 (And.intro z7 (And.intro z8 (And.intro z9 (And.intro z10 (And.intro z11 (And.intro z12 z13))))))))))))
  clear hb0 hC0 hc hl hgn han hn hp A1 A2 A3 A4 G1 G2 G3 T1 B1 hr hres ha hbb hxi hxj hxk z1 z2 z3 z4 z5 z6 z7 z8 z9 z10 z11 z12 z13
  go_enter Try.func45, Try.ntmps45
  go_upto_region 1 with (fail)
  obtain ⟨q, hq⟩ : ∃ q, q = w.heap.size := ⟨_, rfl⟩
  simp only [← hq] at HC0 ⊢
  generalize w.alloc (.cells #[.func (.func 47) #[] #[], .func (.func 46) #[] #[]] 65) = w1 at HBw1 HC0 ka kb kc k0 k1 k2 k3 k4 ⊢
  have HQ := Lib.hid hq
  clear hq
  go_quiet (fail)
  clear ka kb kc k0 k1 k2 k3 k4 ewa ewb
  have HBw2 := Lib.hid (HBw1.out.trans ((below_drewN (Below.refl w1.heap.size w1) nq).mono HBw1.out.size))
  have HC1 := Lib.hid (HC0.out.grow (below_drewN (Below.refl w1.heap.size w1) nq))
  generalize w1.drewN nq = w2 at HBw2 HC1 ⊢
  clear HBw1 HC0
  obtain ⟨z1, z2, z3, z4, z5, -⟩ := HZ.out
  go_upto_region 2 with (fail)
  have hC : (ShC (.func (.func 47) #[] #[]) (.func (.func 46) #[] #[]) q b p (.slice (some ⟨ab, ao, none⟩) n ac) (.slice (some ⟨gb, go, none⟩) n gc) gb go i j k) w2.drew := HC1.out.grow (Below.refl _ w2).drew
  have HBw2' := Lib.hid (HBw2.out.trans ((Below.refl _ w2).drew.mono HBw2.out.size))
  clear HBw2 HC1
  have HBw2 := HBw2'
  clear HBw2'
  generalize hW0 : w2.drew = w2 at HBw2 hC
  refine Lim.regC' (ShC (.func (.func 47) #[] #[]) (.func (.func 46) #[] #[]) q b p (.slice (some ⟨ab, ao, none⟩) n ac) (.slice (some ⟨gb, go, none⟩) n gc) gb go i j k) [] #[false, false, false, false, false, false, false, false, false, false, false, false, false, false, false, false, false, false, false, false, false, false, false, false, false, false, false, false, false, false, false, false, false, false, false, false, false, false, false, false] (by kernel_rfl) rfl ?_
  rw [hW0]; clear hW0
  refine Lim.stepR 0 (fun _ => trivial) rfl (by kernel_rfl) (fun _ _ _ _ h => h) hC rfl ?_; apply Exists.intro; refine ⟨?_, ?_⟩
  · rintro w ⟨⟨r1, r2, r3, r4, r5⟩, ⟨r6, r7⟩, ⟨r8, r9⟩, ⟨r10, r11⟩, ⟨r12, r13⟩⟩; go_simp; try with_reducible rfl
  simp only [Act.put, List.setIfInBounds_toArray, List.set_cons_succ, List.set_cons_zero]
  refine Lim.stepR 1 (fun _ => trivial) rfl (by kernel_rfl) (fun _ _ _ _ h => h) hC rfl ?_; apply Exists.intro; refine ⟨?_, ?_⟩
  · rintro w ⟨⟨r1, r2, r3, r4, r5⟩, ⟨r6, r7⟩, ⟨r8, r9⟩, ⟨r10, r11⟩, ⟨r12, r13⟩⟩; go_simp; try with_reducible rfl
  simp only [Act.put, List.setIfInBounds_toArray, List.set_cons_succ, List.set_cons_zero]
  refine Lim.stepR 2 (fun _ => trivial) rfl (by kernel_rfl) (fun _ _ _ _ h => h) hC rfl ?_; apply Exists.intro; refine ⟨?_, ?_⟩
  · rintro w ⟨⟨r1, r2, r3, r4, r5⟩, ⟨r6, r7⟩, ⟨r8, r9⟩, ⟨r10, r11⟩, ⟨r12, r13⟩⟩; go_simp; try with_reducible rfl
  simp only [Act.put, List.setIfInBounds_toArray, List.set_cons_succ, List.set_cons_zero]
  refine Lim.stepR 3 (fun _ => trivial) rfl (by kernel_rfl) (fun _ _ _ _ h => h) hC rfl ?_; apply Exists.intro; refine ⟨?_, ?_⟩
  · rintro w ⟨⟨r1, r2, r3, r4, r5⟩, ⟨r6, r7⟩, ⟨r8, r9⟩, ⟨r10, r11⟩, ⟨r12, r13⟩⟩; go_simp; try with_reducible rfl
  simp only [Act.put, List.setIfInBounds_toArray, List.set_cons_succ, List.set_cons_zero]
  refine Lim.stepR 4 (fun _ => trivial) rfl (by kernel_rfl) (fun _ _ _ _ h => h) hC rfl ?_; apply Exists.intro; refine ⟨?_, ?_⟩
  · rintro w ⟨⟨r1, r2, r3, r4, r5⟩, ⟨r6, r7⟩, ⟨r8, r9⟩, ⟨r10, r11⟩, ⟨r12, r13⟩⟩; go_simp; try with_reducible rfl
  simp only [Act.put, List.setIfInBounds_toArray, List.set_cons_succ, List.set_cons_zero]
  refine Lim.stepR 5 (fun _ => trivial) rfl (by kernel_rfl) (fun _ _ _ _ h => h) hC rfl ?_; apply Exists.intro; refine ⟨?_, ?_⟩
  · rintro w ⟨⟨r1, r2, r3, r4, r5⟩, ⟨r6, r7⟩, ⟨r8, r9⟩, ⟨r10, r11⟩, ⟨r12, r13⟩⟩; go_simp; try with_reducible rfl
  simp only [Act.put, List.setIfInBounds_toArray, List.set_cons_succ, List.set_cons_zero]
  refine Lim.stepR 6 (fun _ => trivial) rfl (by kernel_rfl) (fun _ _ _ _ h => h) hC rfl ?_; apply Exists.intro; refine ⟨?_, ?_⟩
  · rintro w ⟨⟨r1, r2, r3, r4, r5⟩, ⟨r6, r7⟩, ⟨r8, r9⟩, ⟨r10, r11⟩, ⟨r12, r13⟩⟩; go_simp; try with_reducible rfl
  simp only [Act.put, List.setIfInBounds_toArray, List.set_cons_succ, List.set_cons_zero]
  refine Lim.stepR 7 (fun _ => trivial) rfl (by kernel_rfl) (fun _ _ _ _ h => h) hC rfl ?_; apply Exists.intro; refine ⟨?_, ?_⟩
  · rintro w ⟨⟨r1, r2, r3, r4, r5⟩, ⟨r6, r7⟩, ⟨r8, r9⟩, ⟨r10, r11⟩, ⟨r12, r13⟩⟩; go_simp; try with_reducible rfl
  simp only [Act.put, List.setIfInBounds_toArray, List.set_cons_succ, List.set_cons_zero]
  refine Lim.stepR 8 (fun _ => trivial) rfl (by kernel_rfl) (fun _ _ _ _ h => h) hC rfl ?_; apply Exists.intro; refine ⟨?_, ?_⟩
  · rintro w ⟨⟨r1, r2, r3, r4, r5⟩, ⟨r6, r7⟩, ⟨r8, r9⟩, ⟨r10, r11⟩, ⟨r12, r13⟩⟩; go_simp; try with_reducible rfl
  simp only [Act.put, List.setIfInBounds_toArray, List.set_cons_succ, List.set_cons_zero]
  refine Lim.stepR 9 (fun _ => trivial) rfl (by kernel_rfl) (fun _ _ _ _ h => h) hC rfl ?_; apply Exists.intro; refine ⟨?_, ?_⟩
  · rintro w ⟨⟨r1, r2, r3, r4, r5⟩, ⟨r6, r7⟩, ⟨r8, r9⟩, ⟨r10, r11⟩, ⟨r12, r13⟩⟩; go_simp; try with_reducible rfl
  simp only [Act.put, List.setIfInBounds_toArray, List.set_cons_succ, List.set_cons_zero]
  refine Lim.stepR 11 (fun _ => trivial) rfl (by kernel_rfl) (fun _ _ _ _ h => h) hC rfl ?_; apply Exists.intro; refine ⟨?_, ?_⟩
  · rintro w ⟨⟨r1, r2, r3, r4, r5⟩, ⟨r6, r7⟩, ⟨r8, r9⟩, ⟨r10, r11⟩, ⟨r12, r13⟩⟩; go_simp; try with_reducible rfl
  simp only [Act.put, List.setIfInBounds_toArray, List.set_cons_succ, List.set_cons_zero]
  refine Lim.stepR 12 (fun _ => trivial) rfl (by kernel_rfl) (fun _ _ _ _ h => h) hC rfl ?_; apply Exists.intro; refine ⟨?_, ?_⟩
  · rintro w ⟨⟨r1, r2, r3, r4, r5⟩, ⟨r6, r7⟩, ⟨r8, r9⟩, ⟨r10, r11⟩, ⟨r12, r13⟩⟩; go_simp; try with_reducible rfl
  simp only [Act.put, List.setIfInBounds_toArray, List.set_cons_succ, List.set_cons_zero]
  refine Lim.stepR 13 (fun _ => trivial) rfl (by kernel_rfl) (fun _ _ _ _ h => h) hC rfl ?_; apply Exists.intro; refine ⟨?_, ?_⟩
  · rintro w ⟨⟨r1, r2, r3, r4, r5⟩, ⟨r6, r7⟩, ⟨r8, r9⟩, ⟨r10, r11⟩, ⟨r12, r13⟩⟩; go_simp; try with_reducible rfl
  simp only [Act.put, List.setIfInBounds_toArray, List.set_cons_succ, List.set_cons_zero]
  refine Lim.stepR 14 (fun _ => trivial) rfl (by kernel_rfl) (fun _ _ _ _ h => h) hC rfl ?_; apply Exists.intro; refine ⟨?_, ?_⟩
  · rintro w ⟨⟨r1, r2, r3, r4, r5⟩, ⟨r6, r7⟩, ⟨r8, r9⟩, ⟨r10, r11⟩, ⟨r12, r13⟩⟩; go_simp; try with_reducible rfl
  simp only [Act.put, List.setIfInBounds_toArray, List.set_cons_succ, List.set_cons_zero]
  refine Lim.stepR 15 (fun _ => trivial) rfl (by kernel_rfl) (fun _ _ _ _ h => h) hC rfl ?_; apply Exists.intro; refine ⟨?_, ?_⟩
  · rintro w ⟨⟨r1, r2, r3, r4, r5⟩, ⟨r6, r7⟩, ⟨r8, r9⟩, ⟨r10, r11⟩, ⟨r12, r13⟩⟩; go_simp; try with_reducible rfl
  simp only [Act.put, List.setIfInBounds_toArray, List.set_cons_succ, List.set_cons_zero]
  refine Lim.stepR 17 (fun _ => trivial) rfl (by kernel_rfl) (fun _ _ _ _ h => h) hC rfl ?_; apply Exists.intro; refine ⟨?_, ?_⟩
  · rintro w ⟨⟨r1, r2, r3, r4, r5⟩, ⟨r6, r7⟩, ⟨r8, r9⟩, ⟨r10, r11⟩, ⟨r12, r13⟩⟩; go_simp; try with_reducible rfl
  simp only [Act.put, List.setIfInBounds_toArray, List.set_cons_succ, List.set_cons_zero]
  refine Lim.stepR 19 (fun _ => trivial) rfl (by kernel_rfl) (fun _ _ _ _ h => h) hC rfl ?_; apply Exists.intro; refine ⟨?_, ?_⟩
  · rintro w ⟨⟨r1, r2, r3, r4, r5⟩, ⟨r6, r7⟩, ⟨r8, r9⟩, ⟨r10, r11⟩, ⟨r12, r13⟩⟩; go_simp; try with_reducible rfl
  simp only [Act.put, List.setIfInBounds_toArray, List.set_cons_succ, List.set_cons_zero]
  refine Lim.stepR 20 (fun _ => trivial) rfl (by kernel_rfl) (fun _ _ _ _ h => h) hC rfl ?_; apply Exists.intro; refine ⟨?_, ?_⟩
  · rintro w ⟨⟨r1, r2, r3, r4, r5⟩, ⟨r6, r7⟩, ⟨r8, r9⟩, ⟨r10, r11⟩, ⟨r12, r13⟩⟩; go_simp; try with_reducible rfl
  simp only [Act.put, List.setIfInBounds_toArray, List.set_cons_succ, List.set_cons_zero]
  refine Lim.stepR 21 (fun _ => trivial) rfl (by kernel_rfl) (fun _ _ _ _ h => h) hC rfl ?_; apply Exists.intro; refine ⟨?_, ?_⟩
  · rintro w ⟨⟨r1, r2, r3, r4, r5⟩, ⟨r6, r7⟩, ⟨r8, r9⟩, ⟨r10, r11⟩, ⟨r12, r13⟩⟩; go_simp; try with_reducible rfl
  simp only [Act.put, List.setIfInBounds_toArray, List.set_cons_succ, List.set_cons_zero]
  refine Lim.stepR 22 (fun _ => trivial) rfl (by kernel_rfl) (fun _ _ _ _ h => h) hC rfl ?_; apply Exists.intro; refine ⟨?_, ?_⟩
  · rintro w ⟨⟨r1, r2, r3, r4, r5⟩, ⟨r6, r7⟩, ⟨r8, r9⟩, ⟨r10, r11⟩, ⟨r12, r13⟩⟩; go_simp; try with_reducible rfl
  simp only [Act.put, List.setIfInBounds_toArray, List.set_cons_succ, List.set_cons_zero]
  refine Lim.stepR 23 (fun _ => trivial) rfl (by kernel_rfl) (fun _ _ _ _ h => h) hC rfl ?_; apply Exists.intro; refine ⟨?_, ?_⟩
  · rintro w ⟨⟨r1, r2, r3, r4, r5⟩, ⟨r6, r7⟩, ⟨r8, r9⟩, ⟨r10, r11⟩, ⟨r12, r13⟩⟩; go_simp; try with_reducible rfl
  simp only [Act.put, List.setIfInBounds_toArray, List.set_cons_succ, List.set_cons_zero]
  refine Lim.stepR 24 (fun _ => trivial) rfl (by kernel_rfl) (fun _ _ _ _ h => h) hC rfl ?_; apply Exists.intro; refine ⟨?_, ?_⟩
  · rintro w ⟨⟨r1, r2, r3, r4, r5⟩, ⟨r6, r7⟩, ⟨r8, r9⟩, ⟨r10, r11⟩, ⟨r12, r13⟩⟩; go_simp; try with_reducible rfl
  simp only [Act.put, List.setIfInBounds_toArray, List.set_cons_succ, List.set_cons_zero]
  refine Lim.stepR 25 (fun _ => trivial) rfl (by kernel_rfl) (fun _ _ _ _ h => h) hC rfl ?_; apply Exists.intro; refine ⟨?_, ?_⟩
  · rintro w ⟨⟨r1, r2, r3, r4, r5⟩, ⟨r6, r7⟩, ⟨r8, r9⟩, ⟨r10, r11⟩, ⟨r12, r13⟩⟩; go_simp; try with_reducible rfl
  simp only [Act.put, List.setIfInBounds_toArray, List.set_cons_succ, List.set_cons_zero]
  refine Lim.stepR 26 (fun _ => trivial) rfl (by kernel_rfl) (fun _ _ _ _ h => h) hC rfl ?_; apply Exists.intro; refine ⟨?_, ?_⟩
  · rintro w ⟨⟨r1, r2, r3, r4, r5⟩, ⟨r6, r7⟩, ⟨r8, r9⟩, ⟨r10, r11⟩, ⟨r12, r13⟩⟩; go_simp; try with_reducible rfl
  simp only [Act.put, List.setIfInBounds_toArray, List.set_cons_succ, List.set_cons_zero]
  refine Lim.stepR 27 (fun _ => trivial) rfl (by kernel_rfl) (fun _ _ _ _ h => h) hC rfl ?_; apply Exists.intro; refine ⟨?_, ?_⟩
  · rintro w ⟨⟨r1, r2, r3, r4, r5⟩, ⟨r6, r7⟩, ⟨r8, r9⟩, ⟨r10, r11⟩, ⟨r12, r13⟩⟩; go_simp; try with_reducible rfl
  simp only [Act.put, List.setIfInBounds_toArray, List.set_cons_succ, List.set_cons_zero]
  refine Lim.stepR 28 (fun _ => trivial) rfl (by kernel_rfl) (fun _ _ _ _ h => h) hC rfl ?_; apply Exists.intro; refine ⟨?_, ?_⟩
  · rintro w ⟨⟨r1, r2, r3, r4, r5⟩, ⟨r6, r7⟩, ⟨r8, r9⟩, ⟨r10, r11⟩, ⟨r12, r13⟩⟩; go_simp; try with_reducible rfl
  simp only [Act.put, List.setIfInBounds_toArray, List.set_cons_succ, List.set_cons_zero]
  refine Lim.stepR 30 (fun _ => trivial) rfl (by kernel_rfl) (fun _ _ _ _ h => h) hC rfl ?_; apply Exists.intro; refine ⟨?_, ?_⟩
  · rintro w ⟨⟨r1, r2, r3, r4, r5⟩, ⟨r6, r7⟩, ⟨r8, r9⟩, ⟨r10, r11⟩, ⟨r12, r13⟩⟩; go_simp; try with_reducible rfl
  simp only [Act.put, List.setIfInBounds_toArray, List.set_cons_succ, List.set_cons_zero]
  refine Lim.stepR 31 (fun _ => trivial) rfl (by kernel_rfl) (fun _ _ _ _ h => h) hC rfl ?_; apply Exists.intro; refine ⟨?_, ?_⟩
  · rintro w ⟨⟨r1, r2, r3, r4, r5⟩, ⟨r6, r7⟩, ⟨r8, r9⟩, ⟨r10, r11⟩, ⟨r12, r13⟩⟩; go_simp; try with_reducible rfl
  simp only [Act.put, List.setIfInBounds_toArray, List.set_cons_succ, List.set_cons_zero]
  refine Lim.stepR 32 (fun _ => trivial) rfl (by kernel_rfl) (fun _ _ _ _ h => h) hC rfl ?_; apply Exists.intro; refine ⟨?_, ?_⟩
  · rintro w ⟨⟨r1, r2, r3, r4, r5⟩, ⟨r6, r7⟩, ⟨r8, r9⟩, ⟨r10, r11⟩, ⟨r12, r13⟩⟩; go_simp; try with_reducible rfl
  simp only [Act.put, List.setIfInBounds_toArray, List.set_cons_succ, List.set_cons_zero]
  refine Lim.stepR 33 (fun _ => trivial) rfl (by kernel_rfl) (fun _ _ _ _ h => h) hC rfl ?_; apply Exists.intro; refine ⟨?_, ?_⟩
  · rintro w ⟨⟨r1, r2, r3, r4, r5⟩, ⟨r6, r7⟩, ⟨r8, r9⟩, ⟨r10, r11⟩, ⟨r12, r13⟩⟩; go_simp; try with_reducible rfl
  simp only [Act.put, List.setIfInBounds_toArray, List.set_cons_succ, List.set_cons_zero]
  refine Lim.stepR 34 (fun _ => trivial) rfl (by kernel_rfl) (fun _ _ _ _ h => h) hC rfl ?_; apply Exists.intro; refine ⟨?_, ?_⟩
  · rintro w ⟨⟨r1, r2, r3, r4, r5⟩, ⟨r6, r7⟩, ⟨r8, r9⟩, ⟨r10, r11⟩, ⟨r12, r13⟩⟩; go_simp; try with_reducible rfl
  simp only [Act.put, List.setIfInBounds_toArray, List.set_cons_succ, List.set_cons_zero]
  refine Lim.stepR 36 (fun _ => trivial) rfl (by kernel_rfl) (fun _ _ _ _ h => h) hC rfl ?_; apply Exists.intro; refine ⟨?_, ?_⟩
  · rintro w ⟨⟨r1, r2, r3, r4, r5⟩, ⟨r6, r7⟩, ⟨r8, r9⟩, ⟨r10, r11⟩, ⟨r12, r13⟩⟩; go_simp; try with_reducible rfl
  simp only [Act.put, List.setIfInBounds_toArray, List.set_cons_succ, List.set_cons_zero]
  refine Lim.stepE 10 (fun _ => trivial) rfl (by kernel_rfl) rfl (fun K hK => ?_)   -- E call
  go_simp
  refine ⟨rfl, (callsIn_wide.2 (low_any _ _ _)).mono ?_⟩
  rintro e w3 ⟨rfl, hb⟩
  have hC2 : (ShC (.func (.func 47) #[] #[]) (.func (.func 46) #[] #[]) q b p (.slice (some ⟨ab, ao, none⟩) n ac) (.slice (some ⟨gb, go, none⟩) n gc) gb go i j k) w3 := hC.grow hb
  have HBw3 := Lib.hid (HBw2.out.trans (hb.mono HBw2.out.size))
  refine hK _ _ hC2 ?_
  clear hb hC HBw2
  simp only [Act.put, List.setIfInBounds_toArray, List.set_cons_succ, List.set_cons_zero]
  refine Lim.stepR 16 (fun _ => trivial) rfl (by kernel_rfl) (fun _ _ _ _ h => h) hC2 rfl ?_; apply Exists.intro; refine ⟨?_, ?_⟩
  · rintro w ⟨⟨r1, r2, r3, r4, r5⟩, ⟨r6, r7⟩, ⟨r8, r9⟩, ⟨r10, r11⟩, ⟨r12, r13⟩⟩; go_simp; try with_reducible rfl
  simp only [Act.put, List.setIfInBounds_toArray, List.set_cons_succ, List.set_cons_zero]
  refine Lim.stepR 18 (fun _ => trivial) rfl (by kernel_rfl) (fun _ _ _ _ h => h) hC2 rfl ?_; apply Exists.intro; refine ⟨?_, ?_⟩
  · rintro w ⟨⟨r1, r2, r3, r4, r5⟩, ⟨r6, r7⟩, ⟨r8, r9⟩, ⟨r10, r11⟩, ⟨r12, r13⟩⟩; go_simp; try with_reducible rfl
  simp only [Act.put, List.setIfInBounds_toArray, List.set_cons_succ, List.set_cons_zero]
  refine Lim.stepE 29 (fun _ => trivial) rfl (by kernel_rfl) rfl (fun K hK => ?_)   -- E call
  go_simp
  refine ⟨rfl, (callsIn_wide.2 (low_any _ _ _)).mono ?_⟩
  rintro e w4 ⟨rfl, hb⟩
  have hC3 : (ShC (.func (.func 47) #[] #[]) (.func (.func 46) #[] #[]) q b p (.slice (some ⟨ab, ao, none⟩) n ac) (.slice (some ⟨gb, go, none⟩) n gc) gb go i j k) w4 := hC2.grow hb
  have HBw4 := Lib.hid (HBw3.out.trans (hb.mono HBw3.out.size))
  refine hK _ _ hC3 ?_
  clear hb hC2 HBw3
  simp only [Act.put, List.setIfInBounds_toArray, List.set_cons_succ, List.set_cons_zero]
  refine Lim.stepR 35 (fun _ => trivial) rfl (by kernel_rfl) (fun _ _ _ _ h => h) hC3 rfl ?_; apply Exists.intro; refine ⟨?_, ?_⟩
  · rintro w ⟨⟨r1, r2, r3, r4, r5⟩, ⟨r6, r7⟩, ⟨r8, r9⟩, ⟨r10, r11⟩, ⟨r12, r13⟩⟩; go_simp; try with_reducible rfl
  simp only [Act.put, List.setIfInBounds_toArray, List.set_cons_succ, List.set_cons_zero]
  refine Lim.stepR 37 (fun _ => trivial) rfl (by kernel_rfl) (fun _ _ _ _ h => h) hC3 rfl ?_; apply Exists.intro; refine ⟨?_, ?_⟩
  · rintro w ⟨⟨r1, r2, r3, r4, r5⟩, ⟨r6, r7⟩, ⟨r8, r9⟩, ⟨r10, r11⟩, ⟨r12, r13⟩⟩; go_simp; try with_reducible rfl
  simp only [Act.put, List.setIfInBounds_toArray, List.set_cons_succ, List.set_cons_zero]
  refine Lim.stepR 38 (fun _ => trivial) rfl (by kernel_rfl) (fun _ _ _ _ h => h) hC3 rfl ?_; apply Exists.intro; refine ⟨?_, ?_⟩
  · rintro w ⟨⟨r1, r2, r3, r4, r5⟩, ⟨r6, r7⟩, ⟨r8, r9⟩, ⟨r10, r11⟩, ⟨r12, r13⟩⟩; go_simp; try with_reducible rfl
  simp only [Act.put, List.setIfInBounds_toArray, List.set_cons_succ, List.set_cons_zero]
  refine Lim.stepR 39 (fun _ => trivial) rfl (by kernel_rfl) (fun _ _ _ _ h => h) hC3 rfl ?_; apply Exists.intro; refine ⟨?_, ?_⟩
  · rintro w ⟨⟨r1, r2, r3, r4, r5⟩, ⟨r6, r7⟩, ⟨r8, r9⟩, ⟨r10, r11⟩, ⟨r12, r13⟩⟩; go_simp; try with_reducible rfl
  simp only [Act.put, List.setIfInBounds_toArray, List.set_cons_succ, List.set_cons_zero]
  refine Lim.stepD (by kernel_rfl) ?_
  clear z1 z2 z3 z4 z5
  obtain ⟨-, -, -, -, -, z6, z7, z8, z9, z10, z11, z12, z13⟩ := HZ.out
  go_upto_region 3 with (fail)
  have hC4 : (ShC (.func (.func 47) #[] #[]) (.func (.func 46) #[] #[]) q b p (.slice (some ⟨ab, ao, none⟩) n ac) (.slice (some ⟨gb, go, none⟩) n gc) gb go i j k) w4.drew := hC3.grow (Below.refl _ w4).drew
  have HBw5 := Lib.hid (HBw4.out.trans ((Below.refl _ w4).drew.mono HBw4.out.size))
  clear HBw4 hC3
  generalize hW0 : w4.drew = w5 at HBw5 hC4
  refine Lim.regC' (ShC (.func (.func 47) #[] #[]) (.func (.func 46) #[] #[]) q b p (.slice (some ⟨ab, ao, none⟩) n ac) (.slice (some ⟨gb, go, none⟩) n gc) gb go i j k) [] #[false, false, false, false, false, false, false, false, false, false, false, false, false, false, false, false, false, false, false, false, false, false, false, false, false, false, false, false, false, false, false, false, false] (by kernel_rfl) rfl ?_
  rw [hW0]; clear hW0
  refine Lim.stepR 0 (fun _ => trivial) rfl (by kernel_rfl) (fun _ _ _ _ h => h) hC4 rfl ?_; apply Exists.intro; refine ⟨?_, ?_⟩
  · rintro w ⟨⟨r1, r2, r3, r4, r5⟩, ⟨r6, r7⟩, ⟨r8, r9⟩, ⟨r10, r11⟩, ⟨r12, r13⟩⟩; go_simp; try with_reducible rfl
  simp only [Act.put, List.setIfInBounds_toArray, List.set_cons_succ, List.set_cons_zero]
  refine Lim.stepR 1 (fun _ => trivial) rfl (by kernel_rfl) (fun _ _ _ _ h => h) hC4 rfl ?_; apply Exists.intro; refine ⟨?_, ?_⟩
  · rintro w ⟨⟨r1, r2, r3, r4, r5⟩, ⟨r6, r7⟩, ⟨r8, r9⟩, ⟨r10, r11⟩, ⟨r12, r13⟩⟩; go_simp; try with_reducible rfl
  simp only [Act.put, List.setIfInBounds_toArray, List.set_cons_succ, List.set_cons_zero]
  refine Lim.stepR 2 (fun _ => trivial) rfl (by kernel_rfl) (fun _ _ _ _ h => h) hC4 rfl ?_; apply Exists.intro; refine ⟨?_, ?_⟩
  · rintro w ⟨⟨r1, r2, r3, r4, r5⟩, ⟨r6, r7⟩, ⟨r8, r9⟩, ⟨r10, r11⟩, ⟨r12, r13⟩⟩; go_simp; try with_reducible rfl
  simp only [Act.put, List.setIfInBounds_toArray, List.set_cons_succ, List.set_cons_zero]
  refine Lim.stepR 3 (fun _ => trivial) rfl (by kernel_rfl) (fun _ _ _ _ h => h) hC4 rfl ?_; apply Exists.intro; refine ⟨?_, ?_⟩
  · rintro w ⟨⟨r1, r2, r3, r4, r5⟩, ⟨r6, r7⟩, ⟨r8, r9⟩, ⟨r10, r11⟩, ⟨r12, r13⟩⟩; go_simp; try with_reducible rfl
  simp only [Act.put, List.setIfInBounds_toArray, List.set_cons_succ, List.set_cons_zero]
  refine Lim.stepR 4 (fun _ => trivial) rfl (by kernel_rfl) (fun _ _ _ _ h => h) hC4 rfl ?_; apply Exists.intro; refine ⟨?_, ?_⟩
  · rintro w ⟨⟨r1, r2, r3, r4, r5⟩, ⟨r6, r7⟩, ⟨r8, r9⟩, ⟨r10, r11⟩, ⟨r12, r13⟩⟩; go_simp; try with_reducible rfl
  simp only [Act.put, List.setIfInBounds_toArray, List.set_cons_succ, List.set_cons_zero]
  refine Lim.stepR 5 (fun _ => trivial) rfl (by kernel_rfl) (fun _ _ _ _ h => h) hC4 rfl ?_; apply Exists.intro; refine ⟨?_, ?_⟩
  · rintro w ⟨⟨r1, r2, r3, r4, r5⟩, ⟨r6, r7⟩, ⟨r8, r9⟩, ⟨r10, r11⟩, ⟨r12, r13⟩⟩; go_simp; try with_reducible rfl
  simp only [Act.put, List.setIfInBounds_toArray, List.set_cons_succ, List.set_cons_zero]
  refine Lim.stepR 6 (fun _ => trivial) rfl (by kernel_rfl) (fun _ _ _ _ h => h) hC4 rfl ?_; apply Exists.intro; refine ⟨?_, ?_⟩
  · rintro w ⟨⟨r1, r2, r3, r4, r5⟩, ⟨r6, r7⟩, ⟨r8, r9⟩, ⟨r10, r11⟩, ⟨r12, r13⟩⟩; go_simp; try with_reducible rfl
  simp only [Act.put, List.setIfInBounds_toArray, List.set_cons_succ, List.set_cons_zero]
  refine Lim.stepR 7 (fun _ => trivial) rfl (by kernel_rfl) (fun _ _ _ _ h => h) hC4 rfl ?_; apply Exists.intro; refine ⟨?_, ?_⟩
  · rintro w ⟨⟨r1, r2, r3, r4, r5⟩, ⟨r6, r7⟩, ⟨r8, r9⟩, ⟨r10, r11⟩, ⟨r12, r13⟩⟩; go_simp; try with_reducible rfl
  simp only [Act.put, List.setIfInBounds_toArray, List.set_cons_succ, List.set_cons_zero]
  refine Lim.stepR 8 (fun _ => trivial) rfl (by kernel_rfl) (fun _ _ _ _ h => h) hC4 rfl ?_; apply Exists.intro; refine ⟨?_, ?_⟩
  · rintro w ⟨⟨r1, r2, r3, r4, r5⟩, ⟨r6, r7⟩, ⟨r8, r9⟩, ⟨r10, r11⟩, ⟨r12, r13⟩⟩; go_simp; try with_reducible rfl
  simp only [Act.put, List.setIfInBounds_toArray, List.set_cons_succ, List.set_cons_zero]
  refine Lim.stepR 9 (fun _ => trivial) rfl (by kernel_rfl) (fun _ _ _ _ h => h) hC4 rfl ?_; apply Exists.intro; refine ⟨?_, ?_⟩
  · rintro w ⟨⟨r1, r2, r3, r4, r5⟩, ⟨r6, r7⟩, ⟨r8, r9⟩, ⟨r10, r11⟩, ⟨r12, r13⟩⟩; go_simp; try with_reducible rfl
  simp only [Act.put, List.setIfInBounds_toArray, List.set_cons_succ, List.set_cons_zero]
  refine Lim.stepR 12 (fun _ => trivial) rfl (by kernel_rfl) (fun _ _ _ _ h => h) hC4 rfl ?_; apply Exists.intro; refine ⟨?_, ?_⟩
  · rintro w ⟨⟨r1, r2, r3, r4, r5⟩, ⟨r6, r7⟩, ⟨r8, r9⟩, ⟨r10, r11⟩, ⟨r12, r13⟩⟩; go_simp; try with_reducible rfl
  simp only [Act.put, List.setIfInBounds_toArray, List.set_cons_succ, List.set_cons_zero]
  refine Lim.stepR 13 (fun _ => trivial) rfl (by kernel_rfl) (fun _ _ _ _ h => h) hC4 rfl ?_; apply Exists.intro; refine ⟨?_, ?_⟩
  · rintro w ⟨⟨r1, r2, r3, r4, r5⟩, ⟨r6, r7⟩, ⟨r8, r9⟩, ⟨r10, r11⟩, ⟨r12, r13⟩⟩; go_simp; try with_reducible rfl
  simp only [Act.put, List.setIfInBounds_toArray, List.set_cons_succ, List.set_cons_zero]
  refine Lim.stepR 14 (fun _ => trivial) rfl (by kernel_rfl) (fun _ _ _ _ h => h) hC4 rfl ?_; apply Exists.intro; refine ⟨?_, ?_⟩
  · rintro w ⟨⟨r1, r2, r3, r4, r5⟩, ⟨r6, r7⟩, ⟨r8, r9⟩, ⟨r10, r11⟩, ⟨r12, r13⟩⟩; go_simp; try with_reducible rfl
  simp only [Act.put, List.setIfInBounds_toArray, List.set_cons_succ, List.set_cons_zero]
  refine Lim.stepR 15 (fun _ => trivial) rfl (by kernel_rfl) (fun _ _ _ _ h => h) hC4 rfl ?_; apply Exists.intro; refine ⟨?_, ?_⟩
  · rintro w ⟨⟨r1, r2, r3, r4, r5⟩, ⟨r6, r7⟩, ⟨r8, r9⟩, ⟨r10, r11⟩, ⟨r12, r13⟩⟩; go_simp; try with_reducible rfl
  simp only [Act.put, List.setIfInBounds_toArray, List.set_cons_succ, List.set_cons_zero]
  refine Lim.stepR 16 (fun _ => trivial) rfl (by kernel_rfl) (fun _ _ _ _ h => h) hC4 rfl ?_; apply Exists.intro; refine ⟨?_, ?_⟩
  · rintro w ⟨⟨r1, r2, r3, r4, r5⟩, ⟨r6, r7⟩, ⟨r8, r9⟩, ⟨r10, r11⟩, ⟨r12, r13⟩⟩; go_simp; try with_reducible rfl
  simp only [Act.put, List.setIfInBounds_toArray, List.set_cons_succ, List.set_cons_zero]
  refine Lim.stepR 17 (fun _ => trivial) rfl (by kernel_rfl) (fun _ _ _ _ h => h) hC4 rfl ?_; apply Exists.intro; refine ⟨?_, ?_⟩
  · rintro w ⟨⟨r1, r2, r3, r4, r5⟩, ⟨r6, r7⟩, ⟨r8, r9⟩, ⟨r10, r11⟩, ⟨r12, r13⟩⟩; go_simp; try with_reducible rfl
  simp only [Act.put, List.setIfInBounds_toArray, List.set_cons_succ, List.set_cons_zero]
  refine Lim.stepR 18 (fun _ => trivial) rfl (by kernel_rfl) (fun _ _ _ _ h => h) hC4 rfl ?_; apply Exists.intro; refine ⟨?_, ?_⟩
  · rintro w ⟨⟨r1, r2, r3, r4, r5⟩, ⟨r6, r7⟩, ⟨r8, r9⟩, ⟨r10, r11⟩, ⟨r12, r13⟩⟩; go_simp; try with_reducible rfl
  simp only [Act.put, List.setIfInBounds_toArray, List.set_cons_succ, List.set_cons_zero]
  refine Lim.stepR 20 (fun _ => trivial) rfl (by kernel_rfl) (fun _ _ _ _ h => h) hC4 rfl ?_; apply Exists.intro; refine ⟨?_, ?_⟩
  · rintro w ⟨⟨r1, r2, r3, r4, r5⟩, ⟨r6, r7⟩, ⟨r8, r9⟩, ⟨r10, r11⟩, ⟨r12, r13⟩⟩; go_simp; try with_reducible rfl
  simp only [Act.put, List.setIfInBounds_toArray, List.set_cons_succ, List.set_cons_zero]
  refine Lim.stepR 22 (fun _ => trivial) rfl (by kernel_rfl) (fun _ _ _ _ h => h) hC4 rfl ?_; apply Exists.intro; refine ⟨?_, ?_⟩
  · rintro w ⟨⟨r1, r2, r3, r4, r5⟩, ⟨r6, r7⟩, ⟨r8, r9⟩, ⟨r10, r11⟩, ⟨r12, r13⟩⟩; go_simp; try with_reducible rfl
  simp only [Act.put, List.setIfInBounds_toArray, List.set_cons_succ, List.set_cons_zero]
  refine Lim.stepR 25 (fun _ => trivial) rfl (by kernel_rfl) (fun _ _ _ _ h => h) hC4 rfl ?_; apply Exists.intro; refine ⟨?_, ?_⟩
  · rintro w ⟨⟨r1, r2, r3, r4, r5⟩, ⟨r6, r7⟩, ⟨r8, r9⟩, ⟨r10, r11⟩, ⟨r12, r13⟩⟩; go_simp; try with_reducible rfl
  simp only [Act.put, List.setIfInBounds_toArray, List.set_cons_succ, List.set_cons_zero]
  refine Lim.stepR 26 (fun _ => trivial) rfl (by kernel_rfl) (fun _ _ _ _ h => h) hC4 rfl ?_; apply Exists.intro; refine ⟨?_, ?_⟩
  · rintro w ⟨⟨r1, r2, r3, r4, r5⟩, ⟨r6, r7⟩, ⟨r8, r9⟩, ⟨r10, r11⟩, ⟨r12, r13⟩⟩; go_simp; try with_reducible rfl
  simp only [Act.put, List.setIfInBounds_toArray, List.set_cons_succ, List.set_cons_zero]
  refine Lim.stepR 27 (fun _ => trivial) rfl (by kernel_rfl) (fun _ _ _ _ h => h) hC4 rfl ?_; apply Exists.intro; refine ⟨?_, ?_⟩
  · rintro w ⟨⟨r1, r2, r3, r4, r5⟩, ⟨r6, r7⟩, ⟨r8, r9⟩, ⟨r10, r11⟩, ⟨r12, r13⟩⟩; go_simp; try with_reducible rfl
  simp only [Act.put, List.setIfInBounds_toArray, List.set_cons_succ, List.set_cons_zero]
  refine Lim.stepR 29 (fun _ => trivial) rfl (by kernel_rfl) (fun _ _ _ _ h => h) hC4 rfl ?_; apply Exists.intro; refine ⟨?_, ?_⟩
  · rintro w ⟨⟨r1, r2, r3, r4, r5⟩, ⟨r6, r7⟩, ⟨r8, r9⟩, ⟨r10, r11⟩, ⟨r12, r13⟩⟩; go_simp; try with_reducible rfl
  simp only [Act.put, List.setIfInBounds_toArray, List.set_cons_succ, List.set_cons_zero]
  refine Lim.stepR 30 (fun _ => trivial) rfl (by kernel_rfl) (fun _ _ _ _ h => h) hC4 rfl ?_; apply Exists.intro; refine ⟨?_, ?_⟩
  · rintro w ⟨⟨r1, r2, r3, r4, r5⟩, ⟨r6, r7⟩, ⟨r8, r9⟩, ⟨r10, r11⟩, ⟨r12, r13⟩⟩; go_simp; try with_reducible rfl
  simp only [Act.put, List.setIfInBounds_toArray, List.set_cons_succ, List.set_cons_zero]
  refine Lim.stepE 10 (fun _ => trivial) rfl (by kernel_rfl) rfl (fun K hK => ?_)   -- E call
  go_simp
  refine ⟨rfl, (callsIn_wide.2 (high_any _ _ _)).mono ?_⟩
  rintro e w6 ⟨rfl, hb⟩
  have hC5 : (ShC (.func (.func 47) #[] #[]) (.func (.func 46) #[] #[]) q b p (.slice (some ⟨ab, ao, none⟩) n ac) (.slice (some ⟨gb, go, none⟩) n gc) gb go i j k) w6 := hC4.grow hb
  have HBw6 := Lib.hid (HBw5.out.trans (hb.mono HBw5.out.size))
  refine hK _ _ hC5 ?_
  clear hb hC4 HBw5
  simp only [Act.put, List.setIfInBounds_toArray, List.set_cons_succ, List.set_cons_zero]
  refine Lim.stepR 11 (fun _ => trivial) rfl (by kernel_rfl) (fun _ _ _ _ h => h) hC5 rfl ?_; apply Exists.intro; refine ⟨?_, ?_⟩
  · rintro w ⟨⟨r1, r2, r3, r4, r5⟩, ⟨r6, r7⟩, ⟨r8, r9⟩, ⟨r10, r11⟩, ⟨r12, r13⟩⟩; go_simp; try with_reducible rfl
  simp only [Act.put, List.setIfInBounds_toArray, List.set_cons_succ, List.set_cons_zero]
  refine Lim.stepE 19 (fun _ => trivial) rfl (by kernel_rfl) rfl (fun K hK => ?_)   -- E call
  go_simp
  refine ⟨rfl, (callsIn_wide.2 (high_any _ _ _)).mono ?_⟩
  rintro e w7 ⟨rfl, hb⟩
  have hC6 : (ShC (.func (.func 47) #[] #[]) (.func (.func 46) #[] #[]) q b p (.slice (some ⟨ab, ao, none⟩) n ac) (.slice (some ⟨gb, go, none⟩) n gc) gb go i j k) w7 := hC5.grow hb
  have HBw7 := Lib.hid (HBw6.out.trans (hb.mono HBw6.out.size))
  refine hK _ _ hC6 ?_
  clear hb hC5 HBw6
  simp only [Act.put, List.setIfInBounds_toArray, List.set_cons_succ, List.set_cons_zero]
  refine Lim.stepR 21 (fun _ => trivial) rfl (by kernel_rfl) (fun _ _ _ _ h => h) hC6 rfl ?_; apply Exists.intro; refine ⟨?_, ?_⟩
  · rintro w ⟨⟨r1, r2, r3, r4, r5⟩, ⟨r6, r7⟩, ⟨r8, r9⟩, ⟨r10, r11⟩, ⟨r12, r13⟩⟩; go_simp; try with_reducible rfl
  simp only [Act.put, List.setIfInBounds_toArray, List.set_cons_succ, List.set_cons_zero]
  refine Lim.stepR 23 (fun _ => trivial) rfl (by kernel_rfl) (fun _ _ _ _ h => h) hC6 rfl ?_; apply Exists.intro; refine ⟨?_, ?_⟩
  · rintro w ⟨⟨r1, r2, r3, r4, r5⟩, ⟨r6, r7⟩, ⟨r8, r9⟩, ⟨r10, r11⟩, ⟨r12, r13⟩⟩; go_simp; try with_reducible rfl
  simp only [Act.put, List.setIfInBounds_toArray, List.set_cons_succ, List.set_cons_zero]
  refine Lim.stepR 24 (fun _ => trivial) rfl (by kernel_rfl) (fun _ _ _ _ h => h) hC6 rfl ?_; apply Exists.intro; refine ⟨?_, ?_⟩
  · rintro w ⟨⟨r1, r2, r3, r4, r5⟩, ⟨r6, r7⟩, ⟨r8, r9⟩, ⟨r10, r11⟩, ⟨r12, r13⟩⟩; go_simp; try with_reducible rfl
  simp only [Act.put, List.setIfInBounds_toArray, List.set_cons_succ, List.set_cons_zero]
  refine Lim.stepR 28 (fun _ => trivial) rfl (by kernel_rfl) (fun _ _ _ _ h => h) hC6 rfl ?_; apply Exists.intro; refine ⟨?_, ?_⟩
  · rintro w ⟨⟨r1, r2, r3, r4, r5⟩, ⟨r6, r7⟩, ⟨r8, r9⟩, ⟨r10, r11⟩, ⟨r12, r13⟩⟩; go_simp; try with_reducible rfl
  simp only [Act.put, List.setIfInBounds_toArray, List.set_cons_succ, List.set_cons_zero]
  refine Lim.stepR 31 (fun _ => trivial) rfl (by kernel_rfl) (fun _ _ _ _ h => h) hC6 rfl ?_; apply Exists.intro; refine ⟨?_, ?_⟩
  · rintro w ⟨⟨r1, r2, r3, r4, r5⟩, ⟨r6, r7⟩, ⟨r8, r9⟩, ⟨r10, r11⟩, ⟨r12, r13⟩⟩; go_simp; try with_reducible rfl
  simp only [Act.put, List.setIfInBounds_toArray, List.set_cons_succ, List.set_cons_zero]
  refine Lim.stepR 32 (fun _ => trivial) rfl (by kernel_rfl) (fun _ _ _ _ h => h) hC6 rfl ?_; apply Exists.intro; refine ⟨?_, ?_⟩
  · rintro w ⟨⟨r1, r2, r3, r4, r5⟩, ⟨r6, r7⟩, ⟨r8, r9⟩, ⟨r10, r11⟩, ⟨r12, r13⟩⟩; go_simp; try with_reducible rfl
  simp only [Act.put, List.setIfInBounds_toArray, List.set_cons_succ, List.set_cons_zero]
  refine Lim.stepD (by kernel_rfl) ?_
  clear z6 z7 z8 z9 z10 z11 z12 z13 hC6
  go_wp2
  go_ret
  exact ⟨rfl, HBw7.out⟩
set_option maxRecDepth 20000 in
set_option maxHeartbeats 2000000 in
theorem short_best {p : Pf} {b n ab ao ac gb go gc i j k : Nat} {w : World} (hp : p.Ok) (hn : n = p.n) (hik : i < k) (hkj : k < j) (hj : j < n) (hc : PfC w b p (.slice (some ⟨ab, ao, none⟩) n ac) (.slice (some ⟨gb, go, none⟩) n gc)) (hl : PfL w.heap.size w p ab ao ac gb go gc) :
    Calls Try.prog 45 #[.pointer (some ⟨b, 0, none⟩), .int .i64 i, .int .i64 j, .int .i64 k, .agg #[.func (.func 46) #[] #[], .func (.func 47) #[] #[]]] w fun e w' => e = .returned (.int .i64 (p.short true false i j k)) ∧ Below w.heap.size w w' := by
  have hgn : p.gr.length = n := by rw [hp.gn, hn]
  have han : p.ats.length = n := hn.symm
  have n40 : n ≤ 40 := by rw [hn]; exact hp.n40
  have A1 := hp.lt hik (by omega : k < p.n)
  have A2 := hp.lt hkj (by omega : j < p.n)
  have A3 := hp.ats i (by omega)
  have A4 := hp.ats j (by omega)
  have G1 := hp.gr i (by omega)
  have G2 := hp.gr j (by omega)
  have G3 := hp.gr k (by omega)
  have T1 := hp.tall
  have B1 := hp.bend
  obtain ⟨s1, m1, s2, m2, ln, u1, u2, u3, u4, u9, u5, u6, r, z1, z2, z3, z4, z5, z6, z7, z8, z9, z10, z11, z12, z13, hr⟩ := short_nums (a := p.a k - p.a i) (b := p.a j - p.a k) (hi := endOf true (p.g i)) (hj := endOf true (p.g j)) (tl := p.tall) (gk := endOf false (p.g k)) (bd := endOf false p.bend) (by omega) (by omega) (by omega) (by unfold endOf; simp; omega) (by unfold endOf; simp; omega) T1 (by unfold endOf; simp; omega) (by unfold endOf Pf.bend; simp; omega)
  have hres : p.short true false i j k = r := hr.symm
  rw [hres]
  have hb0 : Below w.heap.size w (w.alloc (.cells #[.func (.func 46) #[] #[], .func (.func 47) #[] #[]] 65)) := (Below.refl _ w).alloc (Nat.le_refl _) _
  have HBw1 := Lib.hid hb0
  have hC0 : ShC (.func (.func 46) #[] #[]) (.func (.func 47) #[] #[]) w.heap.size b p (.slice (some ⟨ab, ao, none⟩) n ac) (.slice (some ⟨gb, go, none⟩) n gc) gb go i j k (w.alloc (.cells #[.func (.func 46) #[] #[], .func (.func 47) #[] #[]] 65)) :=
    ⟨hc.grow hb0, ⟨by simp [go_sem], by simp [go_sem]⟩, ⟨hb0.on (hl.cg i (by omega)).1, hb0.on (hl.cg i (by omega)).2⟩, ⟨hb0.on (hl.cg j (by omega)).1, hb0.on (hl.cg j (by omega)).2⟩, ⟨hb0.on (hl.cg k (by omega)).1, hb0.on (hl.cg k (by omega)).2⟩⟩
  have HC0 := Lib.hid hC0
  have ka := hb0.on (hl.ca i (by omega))
  have kb := hb0.on (hl.ca j (by omega))
  have kc := hb0.on (hl.ca k (by omega))
  obtain ⟨k0, k1, k2, k3, k4⟩ := hC0.1
  obtain ⟨xi, hxi⟩ : ∃ x, x = p.a i := ⟨_, rfl⟩
  obtain ⟨xj, hxj⟩ : ∃ x, x = p.a j := ⟨_, rfl⟩
  obtain ⟨xk, hxk⟩ : ∃ x, x = p.a k := ⟨_, rfl⟩
  obtain ⟨a, ha⟩ : ∃ a, a = xk - xi := ⟨_, rfl⟩
  obtain ⟨bb, hbb⟩ : ∃ a, a = xj - xk := ⟨_, rfl⟩
  rw [← hxi, ← hxk] at A1
  rw [← hxk, ← hxj] at A2
  rw [← hxi] at A3
  rw [← hxj] at A4
  simp only [endOf, Pf.bend, Bool.false_eq_true, if_false, if_true] at z1 z3 z6 z7
  rw [← hxi, ← hxk] at z4 z7
  rw [← hxj, ← hxk] at z2 z8
  rw [← hxi, ← hxj, ← hxk] at z10
  rw [← hxi] at ka
  rw [← hxj] at kb
  rw [← hxk] at kc
  rw [← ha] at z4 z7
  rw [← hbb] at z2 z8
  rw [← ha, ← hbb] at z10
  have ewa : IntKind.i64.wrap (xk - xi) = a := by rw [ha]; exact IntWalk.i64_in _ (by omega)
  have ewb : IntKind.i64.wrap (xj - xk) = bb := by rw [hbb]; exact IntWalk.i64_in _ (by omega)
  have hi1 : (i : Int) < (n : Int) := by omega
  have hi2 : (j : Int) < (n : Int) := by omega
  have hi3 : (k : Int) < (n : Int) := by omega
  have HZ := Lib.hid (And.intro z1 (And.intro z2 (And.intro z3 (And.intro z4 (And.intro z5 (And.intro z6 (And.intro z7 (And.intro z8 (And.intro z9 (And.intro z10 (And.intro z11 (And.intro z12 z13))))))))))))
  clear hb0 hC0 hc hl hgn han hn hp A1 A2 A3 A4 G1 G2 G3 T1 B1 hr hres ha hbb hxi hxj hxk z1 z2 z3 z4 z5 z6 z7 z8 z9 z10 z11 z12 z13
  go_enter Try.func45, Try.ntmps45
  go_upto_region 1 with (fail)
  obtain ⟨q, hq⟩ : ∃ q, q = w.heap.size := ⟨_, rfl⟩
  simp only [← hq] at HC0 ⊢
  generalize w.alloc (.cells #[.func (.func 46) #[] #[], .func (.func 47) #[] #[]] 65) = w1 at HBw1 HC0 ka kb kc k0 k1 k2 k3 k4 ⊢
  have HQ := Lib.hid hq
  clear hq
  go_quiet (fail)
  clear ka kb kc k0 k1 k2 k3 k4 ewa ewb
  have HBw2 := Lib.hid (HBw1.out.trans ((below_drewN (Below.refl w1.heap.size w1) nq).mono HBw1.out.size))
  have HC1 := Lib.hid (HC0.out.grow (below_drewN (Below.refl w1.heap.size w1) nq))
  generalize w1.drewN nq = w2 at HBw2 HC1 ⊢
  clear HBw1 HC0
  obtain ⟨z1, z2, z3, z4, z5, -⟩ := HZ.out
  go_upto_region 2 with (fail)
  have hC : (ShC (.func (.func 46) #[] #[]) (.func (.func 47) #[] #[]) q b p (.slice (some ⟨ab, ao, none⟩) n ac) (.slice (some ⟨gb, go, none⟩) n gc) gb go i j k) w2.drew := HC1.out.grow (Below.refl _ w2).drew
  have HBw2' := Lib.hid (HBw2.out.trans ((Below.refl _ w2).drew.mono HBw2.out.size))
  clear HBw2 HC1
  have HBw2 := HBw2'
  clear HBw2'
  generalize hW0 : w2.drew = w2 at HBw2 hC
  refine Lim.regC' (ShC (.func (.func 46) #[] #[]) (.func (.func 47) #[] #[]) q b p (.slice (some ⟨ab, ao, none⟩) n ac) (.slice (some ⟨gb, go, none⟩) n gc) gb go i j k) [] #[false, false, false, false, false, false, false, false, false, false, false, false, false, false, false, false, false, false, false, false, false, false, false, false, false, false, false, false, false, false, false, false, false, false, false, false, false, false, false, false] (by kernel_rfl) rfl ?_
  rw [hW0]; clear hW0
  refine Lim.stepR 0 (fun _ => trivial) rfl (by kernel_rfl) (fun _ _ _ _ h => h) hC rfl ?_; apply Exists.intro; refine ⟨?_, ?_⟩
  · rintro w ⟨⟨r1, r2, r3, r4, r5⟩, ⟨r6, r7⟩, ⟨r8, r9⟩, ⟨r10, r11⟩, ⟨r12, r13⟩⟩; go_simp; try with_reducible rfl
  simp only [Act.put, List.setIfInBounds_toArray, List.set_cons_succ, List.set_cons_zero]
  refine Lim.stepR 1 (fun _ => trivial) rfl (by kernel_rfl) (fun _ _ _ _ h => h) hC rfl ?_; apply Exists.intro; refine ⟨?_, ?_⟩
  · rintro w ⟨⟨r1, r2, r3, r4, r5⟩, ⟨r6, r7⟩, ⟨r8, r9⟩, ⟨r10, r11⟩, ⟨r12, r13⟩⟩; go_simp; try with_reducible rfl
  simp only [Act.put, List.setIfInBounds_toArray, List.set_cons_succ, List.set_cons_zero]
  refine Lim.stepR 2 (fun _ => trivial) rfl (by kernel_rfl) (fun _ _ _ _ h => h) hC rfl ?_; apply Exists.intro; refine ⟨?_, ?_⟩
  · rintro w ⟨⟨r1, r2, r3, r4, r5⟩, ⟨r6, r7⟩, ⟨r8, r9⟩, ⟨r10, r11⟩, ⟨r12, r13⟩⟩; go_simp; try with_reducible rfl
  simp only [Act.put, List.setIfInBounds_toArray, List.set_cons_succ, List.set_cons_zero]
  refine Lim.stepR 3 (fun _ => trivial) rfl (by kernel_rfl) (fun _ _ _ _ h => h) hC rfl ?_; apply Exists.intro; refine ⟨?_, ?_⟩
  · rintro w ⟨⟨r1, r2, r3, r4, r5⟩, ⟨r6, r7⟩, ⟨r8, r9⟩, ⟨r10, r11⟩, ⟨r12, r13⟩⟩; go_simp; try with_reducible rfl
  simp only [Act.put, List.setIfInBounds_toArray, List.set_cons_succ, List.set_cons_zero]
  refine Lim.stepR 4 (fun _ => trivial) rfl (by kernel_rfl) (fun _ _ _ _ h => h) hC rfl ?_; apply Exists.intro; refine ⟨?_, ?_⟩
  · rintro w ⟨⟨r1, r2, r3, r4, r5⟩, ⟨r6, r7⟩, ⟨r8, r9⟩, ⟨r10, r11⟩, ⟨r12, r13⟩⟩; go_simp; try with_reducible rfl
  simp only [Act.put, List.setIfInBounds_toArray, List.set_cons_succ, List.set_cons_zero]
  refine Lim.stepR 5 (fun _ => trivial) rfl (by kernel_rfl) (fun _ _ _ _ h => h) hC rfl ?_; apply Exists.intro; refine ⟨?_, ?_⟩
  · rintro w ⟨⟨r1, r2, r3, r4, r5⟩, ⟨r6, r7⟩, ⟨r8, r9⟩, ⟨r10, r11⟩, ⟨r12, r13⟩⟩; go_simp; try with_reducible rfl
  simp only [Act.put, List.setIfInBounds_toArray, List.set_cons_succ, List.set_cons_zero]
  refine Lim.stepR 6 (fun _ => trivial) rfl (by kernel_rfl) (fun _ _ _ _ h => h) hC rfl ?_; apply Exists.intro; refine ⟨?_, ?_⟩
  · rintro w ⟨⟨r1, r2, r3, r4, r5⟩, ⟨r6, r7⟩, ⟨r8, r9⟩, ⟨r10, r11⟩, ⟨r12, r13⟩⟩; go_simp; try with_reducible rfl
  simp only [Act.put, List.setIfInBounds_toArray, List.set_cons_succ, List.set_cons_zero]
  refine Lim.stepR 7 (fun _ => trivial) rfl (by kernel_rfl) (fun _ _ _ _ h => h) hC rfl ?_; apply Exists.intro; refine ⟨?_, ?_⟩
  · rintro w ⟨⟨r1, r2, r3, r4, r5⟩, ⟨r6, r7⟩, ⟨r8, r9⟩, ⟨r10, r11⟩, ⟨r12, r13⟩⟩; go_simp; try with_reducible rfl
  simp only [Act.put, List.setIfInBounds_toArray, List.set_cons_succ, List.set_cons_zero]
  refine Lim.stepR 8 (fun _ => trivial) rfl (by kernel_rfl) (fun _ _ _ _ h => h) hC rfl ?_; apply Exists.intro; refine ⟨?_, ?_⟩
  · rintro w ⟨⟨r1, r2, r3, r4, r5⟩, ⟨r6, r7⟩, ⟨r8, r9⟩, ⟨r10, r11⟩, ⟨r12, r13⟩⟩; go_simp; try with_reducible rfl
  simp only [Act.put, List.setIfInBounds_toArray, List.set_cons_succ, List.set_cons_zero]
  refine Lim.stepR 9 (fun _ => trivial) rfl (by kernel_rfl) (fun _ _ _ _ h => h) hC rfl ?_; apply Exists.intro; refine ⟨?_, ?_⟩
  · rintro w ⟨⟨r1, r2, r3, r4, r5⟩, ⟨r6, r7⟩, ⟨r8, r9⟩, ⟨r10, r11⟩, ⟨r12, r13⟩⟩; go_simp; try with_reducible rfl
  simp only [Act.put, List.setIfInBounds_toArray, List.set_cons_succ, List.set_cons_zero]
  refine Lim.stepR 11 (fun _ => trivial) rfl (by kernel_rfl) (fun _ _ _ _ h => h) hC rfl ?_; apply Exists.intro; refine ⟨?_, ?_⟩
  · rintro w ⟨⟨r1, r2, r3, r4, r5⟩, ⟨r6, r7⟩, ⟨r8, r9⟩, ⟨r10, r11⟩, ⟨r12, r13⟩⟩; go_simp; try with_reducible rfl
  simp only [Act.put, List.setIfInBounds_toArray, List.set_cons_succ, List.set_cons_zero]
  refine Lim.stepR 12 (fun _ => trivial) rfl (by kernel_rfl) (fun _ _ _ _ h => h) hC rfl ?_; apply Exists.intro; refine ⟨?_, ?_⟩
  · rintro w ⟨⟨r1, r2, r3, r4, r5⟩, ⟨r6, r7⟩, ⟨r8, r9⟩, ⟨r10, r11⟩, ⟨r12, r13⟩⟩; go_simp; try with_reducible rfl
  simp only [Act.put, List.setIfInBounds_toArray, List.set_cons_succ, List.set_cons_zero]
  refine Lim.stepR 13 (fun _ => trivial) rfl (by kernel_rfl) (fun _ _ _ _ h => h) hC rfl ?_; apply Exists.intro; refine ⟨?_, ?_⟩
  · rintro w ⟨⟨r1, r2, r3, r4, r5⟩, ⟨r6, r7⟩, ⟨r8, r9⟩, ⟨r10, r11⟩, ⟨r12, r13⟩⟩; go_simp; try with_reducible rfl
  simp only [Act.put, List.setIfInBounds_toArray, List.set_cons_succ, List.set_cons_zero]
  refine Lim.stepR 14 (fun _ => trivial) rfl (by kernel_rfl) (fun _ _ _ _ h => h) hC rfl ?_; apply Exists.intro; refine ⟨?_, ?_⟩
  · rintro w ⟨⟨r1, r2, r3, r4, r5⟩, ⟨r6, r7⟩, ⟨r8, r9⟩, ⟨r10, r11⟩, ⟨r12, r13⟩⟩; go_simp; try with_reducible rfl
  simp only [Act.put, List.setIfInBounds_toArray, List.set_cons_succ, List.set_cons_zero]
  refine Lim.stepR 15 (fun _ => trivial) rfl (by kernel_rfl) (fun _ _ _ _ h => h) hC rfl ?_; apply Exists.intro; refine ⟨?_, ?_⟩
  · rintro w ⟨⟨r1, r2, r3, r4, r5⟩, ⟨r6, r7⟩, ⟨r8, r9⟩, ⟨r10, r11⟩, ⟨r12, r13⟩⟩; go_simp; try with_reducible rfl
  simp only [Act.put, List.setIfInBounds_toArray, List.set_cons_succ, List.set_cons_zero]
  refine Lim.stepR 17 (fun _ => trivial) rfl (by kernel_rfl) (fun _ _ _ _ h => h) hC rfl ?_; apply Exists.intro; refine ⟨?_, ?_⟩
  · rintro w ⟨⟨r1, r2, r3, r4, r5⟩, ⟨r6, r7⟩, ⟨r8, r9⟩, ⟨r10, r11⟩, ⟨r12, r13⟩⟩; go_simp; try with_reducible rfl
  simp only [Act.put, List.setIfInBounds_toArray, List.set_cons_succ, List.set_cons_zero]
  refine Lim.stepR 19 (fun _ => trivial) rfl (by kernel_rfl) (fun _ _ _ _ h => h) hC rfl ?_; apply Exists.intro; refine ⟨?_, ?_⟩
  · rintro w ⟨⟨r1, r2, r3, r4, r5⟩, ⟨r6, r7⟩, ⟨r8, r9⟩, ⟨r10, r11⟩, ⟨r12, r13⟩⟩; go_simp; try with_reducible rfl
  simp only [Act.put, List.setIfInBounds_toArray, List.set_cons_succ, List.set_cons_zero]
  refine Lim.stepR 20 (fun _ => trivial) rfl (by kernel_rfl) (fun _ _ _ _ h => h) hC rfl ?_; apply Exists.intro; refine ⟨?_, ?_⟩
  · rintro w ⟨⟨r1, r2, r3, r4, r5⟩, ⟨r6, r7⟩, ⟨r8, r9⟩, ⟨r10, r11⟩, ⟨r12, r13⟩⟩; go_simp; try with_reducible rfl
  simp only [Act.put, List.setIfInBounds_toArray, List.set_cons_succ, List.set_cons_zero]
  refine Lim.stepR 21 (fun _ => trivial) rfl (by kernel_rfl) (fun _ _ _ _ h => h) hC rfl ?_; apply Exists.intro; refine ⟨?_, ?_⟩
  · rintro w ⟨⟨r1, r2, r3, r4, r5⟩, ⟨r6, r7⟩, ⟨r8, r9⟩, ⟨r10, r11⟩, ⟨r12, r13⟩⟩; go_simp; try with_reducible rfl
  simp only [Act.put, List.setIfInBounds_toArray, List.set_cons_succ, List.set_cons_zero]
  refine Lim.stepR 22 (fun _ => trivial) rfl (by kernel_rfl) (fun _ _ _ _ h => h) hC rfl ?_; apply Exists.intro; refine ⟨?_, ?_⟩
  · rintro w ⟨⟨r1, r2, r3, r4, r5⟩, ⟨r6, r7⟩, ⟨r8, r9⟩, ⟨r10, r11⟩, ⟨r12, r13⟩⟩; go_simp; try with_reducible rfl
  simp only [Act.put, List.setIfInBounds_toArray, List.set_cons_succ, List.set_cons_zero]
  refine Lim.stepR 23 (fun _ => trivial) rfl (by kernel_rfl) (fun _ _ _ _ h => h) hC rfl ?_; apply Exists.intro; refine ⟨?_, ?_⟩
  · rintro w ⟨⟨r1, r2, r3, r4, r5⟩, ⟨r6, r7⟩, ⟨r8, r9⟩, ⟨r10, r11⟩, ⟨r12, r13⟩⟩; go_simp; try with_reducible rfl
  simp only [Act.put, List.setIfInBounds_toArray, List.set_cons_succ, List.set_cons_zero]
  refine Lim.stepR 24 (fun _ => trivial) rfl (by kernel_rfl) (fun _ _ _ _ h => h) hC rfl ?_; apply Exists.intro; refine ⟨?_, ?_⟩
  · rintro w ⟨⟨r1, r2, r3, r4, r5⟩, ⟨r6, r7⟩, ⟨r8, r9⟩, ⟨r10, r11⟩, ⟨r12, r13⟩⟩; go_simp; try with_reducible rfl
  simp only [Act.put, List.setIfInBounds_toArray, List.set_cons_succ, List.set_cons_zero]
  refine Lim.stepR 25 (fun _ => trivial) rfl (by kernel_rfl) (fun _ _ _ _ h => h) hC rfl ?_; apply Exists.intro; refine ⟨?_, ?_⟩
  · rintro w ⟨⟨r1, r2, r3, r4, r5⟩, ⟨r6, r7⟩, ⟨r8, r9⟩, ⟨r10, r11⟩, ⟨r12, r13⟩⟩; go_simp; try with_reducible rfl
  simp only [Act.put, List.setIfInBounds_toArray, List.set_cons_succ, List.set_cons_zero]
  refine Lim.stepR 26 (fun _ => trivial) rfl (by kernel_rfl) (fun _ _ _ _ h => h) hC rfl ?_; apply Exists.intro; refine ⟨?_, ?_⟩
  · rintro w ⟨⟨r1, r2, r3, r4, r5⟩, ⟨r6, r7⟩, ⟨r8, r9⟩, ⟨r10, r11⟩, ⟨r12, r13⟩⟩; go_simp; try with_reducible rfl
  simp only [Act.put, List.setIfInBounds_toArray, List.set_cons_succ, List.set_cons_zero]
  refine Lim.stepR 27 (fun _ => trivial) rfl (by kernel_rfl) (fun _ _ _ _ h => h) hC rfl ?_; apply Exists.intro; refine ⟨?_, ?_⟩
  · rintro w ⟨⟨r1, r2, r3, r4, r5⟩, ⟨r6, r7⟩, ⟨r8, r9⟩, ⟨r10, r11⟩, ⟨r12, r13⟩⟩; go_simp; try with_reducible rfl
  simp only [Act.put, List.setIfInBounds_toArray, List.set_cons_succ, List.set_cons_zero]
  refine Lim.stepR 28 (fun _ => trivial) rfl (by kernel_rfl) (fun _ _ _ _ h => h) hC rfl ?_; apply Exists.intro; refine ⟨?_, ?_⟩
  · rintro w ⟨⟨r1, r2, r3, r4, r5⟩, ⟨r6, r7⟩, ⟨r8, r9⟩, ⟨r10, r11⟩, ⟨r12, r13⟩⟩; go_simp; try with_reducible rfl
  simp only [Act.put, List.setIfInBounds_toArray, List.set_cons_succ, List.set_cons_zero]
  refine Lim.stepR 30 (fun _ => trivial) rfl (by kernel_rfl) (fun _ _ _ _ h => h) hC rfl ?_; apply Exists.intro; refine ⟨?_, ?_⟩
  · rintro w ⟨⟨r1, r2, r3, r4, r5⟩, ⟨r6, r7⟩, ⟨r8, r9⟩, ⟨r10, r11⟩, ⟨r12, r13⟩⟩; go_simp; try with_reducible rfl
  simp only [Act.put, List.setIfInBounds_toArray, List.set_cons_succ, List.set_cons_zero]
  refine Lim.stepR 31 (fun _ => trivial) rfl (by kernel_rfl) (fun _ _ _ _ h => h) hC rfl ?_; apply Exists.intro; refine ⟨?_, ?_⟩
  · rintro w ⟨⟨r1, r2, r3, r4, r5⟩, ⟨r6, r7⟩, ⟨r8, r9⟩, ⟨r10, r11⟩, ⟨r12, r13⟩⟩; go_simp; try with_reducible rfl
  simp only [Act.put, List.setIfInBounds_toArray, List.set_cons_succ, List.set_cons_zero]
  refine Lim.stepR 32 (fun _ => trivial) rfl (by kernel_rfl) (fun _ _ _ _ h => h) hC rfl ?_; apply Exists.intro; refine ⟨?_, ?_⟩
  · rintro w ⟨⟨r1, r2, r3, r4, r5⟩, ⟨r6, r7⟩, ⟨r8, r9⟩, ⟨r10, r11⟩, ⟨r12, r13⟩⟩; go_simp; try with_reducible rfl
  simp only [Act.put, List.setIfInBounds_toArray, List.set_cons_succ, List.set_cons_zero]
  refine Lim.stepR 33 (fun _ => trivial) rfl (by kernel_rfl) (fun _ _ _ _ h => h) hC rfl ?_; apply Exists.intro; refine ⟨?_, ?_⟩
  · rintro w ⟨⟨r1, r2, r3, r4, r5⟩, ⟨r6, r7⟩, ⟨r8, r9⟩, ⟨r10, r11⟩, ⟨r12, r13⟩⟩; go_simp; try with_reducible rfl
  simp only [Act.put, List.setIfInBounds_toArray, List.set_cons_succ, List.set_cons_zero]
  refine Lim.stepR 34 (fun _ => trivial) rfl (by kernel_rfl) (fun _ _ _ _ h => h) hC rfl ?_; apply Exists.intro; refine ⟨?_, ?_⟩
  · rintro w ⟨⟨r1, r2, r3, r4, r5⟩, ⟨r6, r7⟩, ⟨r8, r9⟩, ⟨r10, r11⟩, ⟨r12, r13⟩⟩; go_simp; try with_reducible rfl
  simp only [Act.put, List.setIfInBounds_toArray, List.set_cons_succ, List.set_cons_zero]
  refine Lim.stepR 36 (fun _ => trivial) rfl (by kernel_rfl) (fun _ _ _ _ h => h) hC rfl ?_; apply Exists.intro; refine ⟨?_, ?_⟩
  · rintro w ⟨⟨r1, r2, r3, r4, r5⟩, ⟨r6, r7⟩, ⟨r8, r9⟩, ⟨r10, r11⟩, ⟨r12, r13⟩⟩; go_simp; try with_reducible rfl
  simp only [Act.put, List.setIfInBounds_toArray, List.set_cons_succ, List.set_cons_zero]
  refine Lim.stepE 10 (fun _ => trivial) rfl (by kernel_rfl) rfl (fun K hK => ?_)   -- E call
  go_simp
  refine ⟨rfl, (callsIn_wide.2 (high_any _ _ _)).mono ?_⟩
  rintro e w3 ⟨rfl, hb⟩
  have hC2 : (ShC (.func (.func 46) #[] #[]) (.func (.func 47) #[] #[]) q b p (.slice (some ⟨ab, ao, none⟩) n ac) (.slice (some ⟨gb, go, none⟩) n gc) gb go i j k) w3 := hC.grow hb
  have HBw3 := Lib.hid (HBw2.out.trans (hb.mono HBw2.out.size))
  refine hK _ _ hC2 ?_
  clear hb hC HBw2
  simp only [Act.put, List.setIfInBounds_toArray, List.set_cons_succ, List.set_cons_zero]
  refine Lim.stepR 16 (fun _ => trivial) rfl (by kernel_rfl) (fun _ _ _ _ h => h) hC2 rfl ?_; apply Exists.intro; refine ⟨?_, ?_⟩
  · rintro w ⟨⟨r1, r2, r3, r4, r5⟩, ⟨r6, r7⟩, ⟨r8, r9⟩, ⟨r10, r11⟩, ⟨r12, r13⟩⟩; go_simp; try with_reducible rfl
  simp only [Act.put, List.setIfInBounds_toArray, List.set_cons_succ, List.set_cons_zero]
  refine Lim.stepR 18 (fun _ => trivial) rfl (by kernel_rfl) (fun _ _ _ _ h => h) hC2 rfl ?_; apply Exists.intro; refine ⟨?_, ?_⟩
  · rintro w ⟨⟨r1, r2, r3, r4, r5⟩, ⟨r6, r7⟩, ⟨r8, r9⟩, ⟨r10, r11⟩, ⟨r12, r13⟩⟩; go_simp; try with_reducible rfl
  simp only [Act.put, List.setIfInBounds_toArray, List.set_cons_succ, List.set_cons_zero]
  refine Lim.stepE 29 (fun _ => trivial) rfl (by kernel_rfl) rfl (fun K hK => ?_)   -- E call
  go_simp
  refine ⟨rfl, (callsIn_wide.2 (high_any _ _ _)).mono ?_⟩
  rintro e w4 ⟨rfl, hb⟩
  have hC3 : (ShC (.func (.func 46) #[] #[]) (.func (.func 47) #[] #[]) q b p (.slice (some ⟨ab, ao, none⟩) n ac) (.slice (some ⟨gb, go, none⟩) n gc) gb go i j k) w4 := hC2.grow hb
  have HBw4 := Lib.hid (HBw3.out.trans (hb.mono HBw3.out.size))
  refine hK _ _ hC3 ?_
  clear hb hC2 HBw3
  simp only [Act.put, List.setIfInBounds_toArray, List.set_cons_succ, List.set_cons_zero]
  refine Lim.stepR 35 (fun _ => trivial) rfl (by kernel_rfl) (fun _ _ _ _ h => h) hC3 rfl ?_; apply Exists.intro; refine ⟨?_, ?_⟩
  · rintro w ⟨⟨r1, r2, r3, r4, r5⟩, ⟨r6, r7⟩, ⟨r8, r9⟩, ⟨r10, r11⟩, ⟨r12, r13⟩⟩; go_simp; try with_reducible rfl
  simp only [Act.put, List.setIfInBounds_toArray, List.set_cons_succ, List.set_cons_zero]
  refine Lim.stepR 37 (fun _ => trivial) rfl (by kernel_rfl) (fun _ _ _ _ h => h) hC3 rfl ?_; apply Exists.intro; refine ⟨?_, ?_⟩
  · rintro w ⟨⟨r1, r2, r3, r4, r5⟩, ⟨r6, r7⟩, ⟨r8, r9⟩, ⟨r10, r11⟩, ⟨r12, r13⟩⟩; go_simp; try with_reducible rfl
  simp only [Act.put, List.setIfInBounds_toArray, List.set_cons_succ, List.set_cons_zero]
  refine Lim.stepR 38 (fun _ => trivial) rfl (by kernel_rfl) (fun _ _ _ _ h => h) hC3 rfl ?_; apply Exists.intro; refine ⟨?_, ?_⟩
  · rintro w ⟨⟨r1, r2, r3, r4, r5⟩, ⟨r6, r7⟩, ⟨r8, r9⟩, ⟨r10, r11⟩, ⟨r12, r13⟩⟩; go_simp; try with_reducible rfl
  simp only [Act.put, List.setIfInBounds_toArray, List.set_cons_succ, List.set_cons_zero]
  refine Lim.stepR 39 (fun _ => trivial) rfl (by kernel_rfl) (fun _ _ _ _ h => h) hC3 rfl ?_; apply Exists.intro; refine ⟨?_, ?_⟩
  · rintro w ⟨⟨r1, r2, r3, r4, r5⟩, ⟨r6, r7⟩, ⟨r8, r9⟩, ⟨r10, r11⟩, ⟨r12, r13⟩⟩; go_simp; try with_reducible rfl
  simp only [Act.put, List.setIfInBounds_toArray, List.set_cons_succ, List.set_cons_zero]
  refine Lim.stepD (by kernel_rfl) ?_
  clear z1 z2 z3 z4 z5
  obtain ⟨-, -, -, -, -, z6, z7, z8, z9, z10, z11, z12, z13⟩ := HZ.out
  go_upto_region 3 with (fail)
  have hC4 : (ShC (.func (.func 46) #[] #[]) (.func (.func 47) #[] #[]) q b p (.slice (some ⟨ab, ao, none⟩) n ac) (.slice (some ⟨gb, go, none⟩) n gc) gb go i j k) w4.drew := hC3.grow (Below.refl _ w4).drew
  have HBw5 := Lib.hid (HBw4.out.trans ((Below.refl _ w4).drew.mono HBw4.out.size))
  clear HBw4 hC3
  generalize hW0 : w4.drew = w5 at HBw5 hC4
  refine Lim.regC' (ShC (.func (.func 46) #[] #[]) (.func (.func 47) #[] #[]) q b p (.slice (some ⟨ab, ao, none⟩) n ac) (.slice (some ⟨gb, go, none⟩) n gc) gb go i j k) [] #[false, false, false, false, false, false, false, false, false, false, false, false, false, false, false, false, false, false, false, false, false, false, false, false, false, false, false, false, false, false, false, false, false] (by kernel_rfl) rfl ?_
  rw [hW0]; clear hW0
  refine Lim.stepR 0 (fun _ => trivial) rfl (by kernel_rfl) (fun _ _ _ _ h => h) hC4 rfl ?_; apply Exists.intro; refine ⟨?_, ?_⟩
  · rintro w ⟨⟨r1, r2, r3, r4, r5⟩, ⟨r6, r7⟩, ⟨r8, r9⟩, ⟨r10, r11⟩, ⟨r12, r13⟩⟩; go_simp; try with_reducible rfl
  simp only [Act.put, List.setIfInBounds_toArray, List.set_cons_succ, List.set_cons_zero]
  refine Lim.stepR 1 (fun _ => trivial) rfl (by kernel_rfl) (fun _ _ _ _ h => h) hC4 rfl ?_; apply Exists.intro; refine ⟨?_, ?_⟩
  · rintro w ⟨⟨r1, r2, r3, r4, r5⟩, ⟨r6, r7⟩, ⟨r8, r9⟩, ⟨r10, r11⟩, ⟨r12, r13⟩⟩; go_simp; try with_reducible rfl
  simp only [Act.put, List.setIfInBounds_toArray, List.set_cons_succ, List.set_cons_zero]
  refine Lim.stepR 2 (fun _ => trivial) rfl (by kernel_rfl) (fun _ _ _ _ h => h) hC4 rfl ?_; apply Exists.intro; refine ⟨?_, ?_⟩
  · rintro w ⟨⟨r1, r2, r3, r4, r5⟩, ⟨r6, r7⟩, ⟨r8, r9⟩, ⟨r10, r11⟩, ⟨r12, r13⟩⟩; go_simp; try with_reducible rfl
  simp only [Act.put, List.setIfInBounds_toArray, List.set_cons_succ, List.set_cons_zero]
  refine Lim.stepR 3 (fun _ => trivial) rfl (by kernel_rfl) (fun _ _ _ _ h => h) hC4 rfl ?_; apply Exists.intro; refine ⟨?_, ?_⟩
  · rintro w ⟨⟨r1, r2, r3, r4, r5⟩, ⟨r6, r7⟩, ⟨r8, r9⟩, ⟨r10, r11⟩, ⟨r12, r13⟩⟩; go_simp; try with_reducible rfl
  simp only [Act.put, List.setIfInBounds_toArray, List.set_cons_succ, List.set_cons_zero]
  refine Lim.stepR 4 (fun _ => trivial) rfl (by kernel_rfl) (fun _ _ _ _ h => h) hC4 rfl ?_; apply Exists.intro; refine ⟨?_, ?_⟩
  · rintro w ⟨⟨r1, r2, r3, r4, r5⟩, ⟨r6, r7⟩, ⟨r8, r9⟩, ⟨r10, r11⟩, ⟨r12, r13⟩⟩; go_simp; try with_reducible rfl
  simp only [Act.put, List.setIfInBounds_toArray, List.set_cons_succ, List.set_cons_zero]
  refine Lim.stepR 5 (fun _ => trivial) rfl (by kernel_rfl) (fun _ _ _ _ h => h) hC4 rfl ?_; apply Exists.intro; refine ⟨?_, ?_⟩
  · rintro w ⟨⟨r1, r2, r3, r4, r5⟩, ⟨r6, r7⟩, ⟨r8, r9⟩, ⟨r10, r11⟩, ⟨r12, r13⟩⟩; go_simp; try with_reducible rfl
  simp only [Act.put, List.setIfInBounds_toArray, List.set_cons_succ, List.set_cons_zero]
  refine Lim.stepR 6 (fun _ => trivial) rfl (by kernel_rfl) (fun _ _ _ _ h => h) hC4 rfl ?_; apply Exists.intro; refine ⟨?_, ?_⟩
  · rintro w ⟨⟨r1, r2, r3, r4, r5⟩, ⟨r6, r7⟩, ⟨r8, r9⟩, ⟨r10, r11⟩, ⟨r12, r13⟩⟩; go_simp; try with_reducible rfl
  simp only [Act.put, List.setIfInBounds_toArray, List.set_cons_succ, List.set_cons_zero]
  refine Lim.stepR 7 (fun _ => trivial) rfl (by kernel_rfl) (fun _ _ _ _ h => h) hC4 rfl ?_; apply Exists.intro; refine ⟨?_, ?_⟩
  · rintro w ⟨⟨r1, r2, r3, r4, r5⟩, ⟨r6, r7⟩, ⟨r8, r9⟩, ⟨r10, r11⟩, ⟨r12, r13⟩⟩; go_simp; try with_reducible rfl
  simp only [Act.put, List.setIfInBounds_toArray, List.set_cons_succ, List.set_cons_zero]
  refine Lim.stepR 8 (fun _ => trivial) rfl (by kernel_rfl) (fun _ _ _ _ h => h) hC4 rfl ?_; apply Exists.intro; refine ⟨?_, ?_⟩
  · rintro w ⟨⟨r1, r2, r3, r4, r5⟩, ⟨r6, r7⟩, ⟨r8, r9⟩, ⟨r10, r11⟩, ⟨r12, r13⟩⟩; go_simp; try with_reducible rfl
  simp only [Act.put, List.setIfInBounds_toArray, List.set_cons_succ, List.set_cons_zero]
  refine Lim.stepR 9 (fun _ => trivial) rfl (by kernel_rfl) (fun _ _ _ _ h => h) hC4 rfl ?_; apply Exists.intro; refine ⟨?_, ?_⟩
  · rintro w ⟨⟨r1, r2, r3, r4, r5⟩, ⟨r6, r7⟩, ⟨r8, r9⟩, ⟨r10, r11⟩, ⟨r12, r13⟩⟩; go_simp; try with_reducible rfl
  simp only [Act.put, List.setIfInBounds_toArray, List.set_cons_succ, List.set_cons_zero]
  refine Lim.stepR 12 (fun _ => trivial) rfl (by kernel_rfl) (fun _ _ _ _ h => h) hC4 rfl ?_; apply Exists.intro; refine ⟨?_, ?_⟩
  · rintro w ⟨⟨r1, r2, r3, r4, r5⟩, ⟨r6, r7⟩, ⟨r8, r9⟩, ⟨r10, r11⟩, ⟨r12, r13⟩⟩; go_simp; try with_reducible rfl
  simp only [Act.put, List.setIfInBounds_toArray, List.set_cons_succ, List.set_cons_zero]
  refine Lim.stepR 13 (fun _ => trivial) rfl (by kernel_rfl) (fun _ _ _ _ h => h) hC4 rfl ?_; apply Exists.intro; refine ⟨?_, ?_⟩
  · rintro w ⟨⟨r1, r2, r3, r4, r5⟩, ⟨r6, r7⟩, ⟨r8, r9⟩, ⟨r10, r11⟩, ⟨r12, r13⟩⟩; go_simp; try with_reducible rfl
  simp only [Act.put, List.setIfInBounds_toArray, List.set_cons_succ, List.set_cons_zero]
  refine Lim.stepR 14 (fun _ => trivial) rfl (by kernel_rfl) (fun _ _ _ _ h => h) hC4 rfl ?_; apply Exists.intro; refine ⟨?_, ?_⟩
  · rintro w ⟨⟨r1, r2, r3, r4, r5⟩, ⟨r6, r7⟩, ⟨r8, r9⟩, ⟨r10, r11⟩, ⟨r12, r13⟩⟩; go_simp; try with_reducible rfl
  simp only [Act.put, List.setIfInBounds_toArray, List.set_cons_succ, List.set_cons_zero]
  refine Lim.stepR 15 (fun _ => trivial) rfl (by kernel_rfl) (fun _ _ _ _ h => h) hC4 rfl ?_; apply Exists.intro; refine ⟨?_, ?_⟩
  · rintro w ⟨⟨r1, r2, r3, r4, r5⟩, ⟨r6, r7⟩, ⟨r8, r9⟩, ⟨r10, r11⟩, ⟨r12, r13⟩⟩; go_simp; try with_reducible rfl
  simp only [Act.put, List.setIfInBounds_toArray, List.set_cons_succ, List.set_cons_zero]
  refine Lim.stepR 16 (fun _ => trivial) rfl (by kernel_rfl) (fun _ _ _ _ h => h) hC4 rfl ?_; apply Exists.intro; refine ⟨?_, ?_⟩
  · rintro w ⟨⟨r1, r2, r3, r4, r5⟩, ⟨r6, r7⟩, ⟨r8, r9⟩, ⟨r10, r11⟩, ⟨r12, r13⟩⟩; go_simp; try with_reducible rfl
  simp only [Act.put, List.setIfInBounds_toArray, List.set_cons_succ, List.set_cons_zero]
  refine Lim.stepR 17 (fun _ => trivial) rfl (by kernel_rfl) (fun _ _ _ _ h => h) hC4 rfl ?_; apply Exists.intro; refine ⟨?_, ?_⟩
  · rintro w ⟨⟨r1, r2, r3, r4, r5⟩, ⟨r6, r7⟩, ⟨r8, r9⟩, ⟨r10, r11⟩, ⟨r12, r13⟩⟩; go_simp; try with_reducible rfl
  simp only [Act.put, List.setIfInBounds_toArray, List.set_cons_succ, List.set_cons_zero]
  refine Lim.stepR 18 (fun _ => trivial) rfl (by kernel_rfl) (fun _ _ _ _ h => h) hC4 rfl ?_; apply Exists.intro; refine ⟨?_, ?_⟩
  · rintro w ⟨⟨r1, r2, r3, r4, r5⟩, ⟨r6, r7⟩, ⟨r8, r9⟩, ⟨r10, r11⟩, ⟨r12, r13⟩⟩; go_simp; try with_reducible rfl
  simp only [Act.put, List.setIfInBounds_toArray, List.set_cons_succ, List.set_cons_zero]
  refine Lim.stepR 20 (fun _ => trivial) rfl (by kernel_rfl) (fun _ _ _ _ h => h) hC4 rfl ?_; apply Exists.intro; refine ⟨?_, ?_⟩
  · rintro w ⟨⟨r1, r2, r3, r4, r5⟩, ⟨r6, r7⟩, ⟨r8, r9⟩, ⟨r10, r11⟩, ⟨r12, r13⟩⟩; go_simp; try with_reducible rfl
  simp only [Act.put, List.setIfInBounds_toArray, List.set_cons_succ, List.set_cons_zero]
  refine Lim.stepR 22 (fun _ => trivial) rfl (by kernel_rfl) (fun _ _ _ _ h => h) hC4 rfl ?_; apply Exists.intro; refine ⟨?_, ?_⟩
  · rintro w ⟨⟨r1, r2, r3, r4, r5⟩, ⟨r6, r7⟩, ⟨r8, r9⟩, ⟨r10, r11⟩, ⟨r12, r13⟩⟩; go_simp; try with_reducible rfl
  simp only [Act.put, List.setIfInBounds_toArray, List.set_cons_succ, List.set_cons_zero]
  refine Lim.stepR 25 (fun _ => trivial) rfl (by kernel_rfl) (fun _ _ _ _ h => h) hC4 rfl ?_; apply Exists.intro; refine ⟨?_, ?_⟩
  · rintro w ⟨⟨r1, r2, r3, r4, r5⟩, ⟨r6, r7⟩, ⟨r8, r9⟩, ⟨r10, r11⟩, ⟨r12, r13⟩⟩; go_simp; try with_reducible rfl
  simp only [Act.put, List.setIfInBounds_toArray, List.set_cons_succ, List.set_cons_zero]
  refine Lim.stepR 26 (fun _ => trivial) rfl (by kernel_rfl) (fun _ _ _ _ h => h) hC4 rfl ?_; apply Exists.intro; refine ⟨?_, ?_⟩
  · rintro w ⟨⟨r1, r2, r3, r4, r5⟩, ⟨r6, r7⟩, ⟨r8, r9⟩, ⟨r10, r11⟩, ⟨r12, r13⟩⟩; go_simp; try with_reducible rfl
  simp only [Act.put, List.setIfInBounds_toArray, List.set_cons_succ, List.set_cons_zero]
  refine Lim.stepR 27 (fun _ => trivial) rfl (by kernel_rfl) (fun _ _ _ _ h => h) hC4 rfl ?_; apply Exists.intro; refine ⟨?_, ?_⟩
  · rintro w ⟨⟨r1, r2, r3, r4, r5⟩, ⟨r6, r7⟩, ⟨r8, r9⟩, ⟨r10, r11⟩, ⟨r12, r13⟩⟩; go_simp; try with_reducible rfl
  simp only [Act.put, List.setIfInBounds_toArray, List.set_cons_succ, List.set_cons_zero]
  refine Lim.stepR 29 (fun _ => trivial) rfl (by kernel_rfl) (fun _ _ _ _ h => h) hC4 rfl ?_; apply Exists.intro; refine ⟨?_, ?_⟩
  · rintro w ⟨⟨r1, r2, r3, r4, r5⟩, ⟨r6, r7⟩, ⟨r8, r9⟩, ⟨r10, r11⟩, ⟨r12, r13⟩⟩; go_simp; try with_reducible rfl
  simp only [Act.put, List.setIfInBounds_toArray, List.set_cons_succ, List.set_cons_zero]
  refine Lim.stepR 30 (fun _ => trivial) rfl (by kernel_rfl) (fun _ _ _ _ h => h) hC4 rfl ?_; apply Exists.intro; refine ⟨?_, ?_⟩
  · rintro w ⟨⟨r1, r2, r3, r4, r5⟩, ⟨r6, r7⟩, ⟨r8, r9⟩, ⟨r10, r11⟩, ⟨r12, r13⟩⟩; go_simp; try with_reducible rfl
  simp only [Act.put, List.setIfInBounds_toArray, List.set_cons_succ, List.set_cons_zero]
  refine Lim.stepE 10 (fun _ => trivial) rfl (by kernel_rfl) rfl (fun K hK => ?_)   -- E call
  go_simp
  refine ⟨rfl, (callsIn_wide.2 (low_any _ _ _)).mono ?_⟩
  rintro e w6 ⟨rfl, hb⟩
  have hC5 : (ShC (.func (.func 46) #[] #[]) (.func (.func 47) #[] #[]) q b p (.slice (some ⟨ab, ao, none⟩) n ac) (.slice (some ⟨gb, go, none⟩) n gc) gb go i j k) w6 := hC4.grow hb
  have HBw6 := Lib.hid (HBw5.out.trans (hb.mono HBw5.out.size))
  refine hK _ _ hC5 ?_
  clear hb hC4 HBw5
  simp only [Act.put, List.setIfInBounds_toArray, List.set_cons_succ, List.set_cons_zero]
  refine Lim.stepR 11 (fun _ => trivial) rfl (by kernel_rfl) (fun _ _ _ _ h => h) hC5 rfl ?_; apply Exists.intro; refine ⟨?_, ?_⟩
  · rintro w ⟨⟨r1, r2, r3, r4, r5⟩, ⟨r6, r7⟩, ⟨r8, r9⟩, ⟨r10, r11⟩, ⟨r12, r13⟩⟩; go_simp; try with_reducible rfl
  simp only [Act.put, List.setIfInBounds_toArray, List.set_cons_succ, List.set_cons_zero]
  refine Lim.stepE 19 (fun _ => trivial) rfl (by kernel_rfl) rfl (fun K hK => ?_)   -- E call
  go_simp
  refine ⟨rfl, (callsIn_wide.2 (low_any _ _ _)).mono ?_⟩
  rintro e w7 ⟨rfl, hb⟩
  have hC6 : (ShC (.func (.func 46) #[] #[]) (.func (.func 47) #[] #[]) q b p (.slice (some ⟨ab, ao, none⟩) n ac) (.slice (some ⟨gb, go, none⟩) n gc) gb go i j k) w7 := hC5.grow hb
  have HBw7 := Lib.hid (HBw6.out.trans (hb.mono HBw6.out.size))
  refine hK _ _ hC6 ?_
  clear hb hC5 HBw6
  simp only [Act.put, List.setIfInBounds_toArray, List.set_cons_succ, List.set_cons_zero]
  refine Lim.stepR 21 (fun _ => trivial) rfl (by kernel_rfl) (fun _ _ _ _ h => h) hC6 rfl ?_; apply Exists.intro; refine ⟨?_, ?_⟩
  · rintro w ⟨⟨r1, r2, r3, r4, r5⟩, ⟨r6, r7⟩, ⟨r8, r9⟩, ⟨r10, r11⟩, ⟨r12, r13⟩⟩; go_simp; try with_reducible rfl
  simp only [Act.put, List.setIfInBounds_toArray, List.set_cons_succ, List.set_cons_zero]
  refine Lim.stepR 23 (fun _ => trivial) rfl (by kernel_rfl) (fun _ _ _ _ h => h) hC6 rfl ?_; apply Exists.intro; refine ⟨?_, ?_⟩
  · rintro w ⟨⟨r1, r2, r3, r4, r5⟩, ⟨r6, r7⟩, ⟨r8, r9⟩, ⟨r10, r11⟩, ⟨r12, r13⟩⟩; go_simp; try with_reducible rfl
  simp only [Act.put, List.setIfInBounds_toArray, List.set_cons_succ, List.set_cons_zero]
  refine Lim.stepR 24 (fun _ => trivial) rfl (by kernel_rfl) (fun _ _ _ _ h => h) hC6 rfl ?_; apply Exists.intro; refine ⟨?_, ?_⟩
  · rintro w ⟨⟨r1, r2, r3, r4, r5⟩, ⟨r6, r7⟩, ⟨r8, r9⟩, ⟨r10, r11⟩, ⟨r12, r13⟩⟩; go_simp; try with_reducible rfl
  simp only [Act.put, List.setIfInBounds_toArray, List.set_cons_succ, List.set_cons_zero]
  refine Lim.stepR 28 (fun _ => trivial) rfl (by kernel_rfl) (fun _ _ _ _ h => h) hC6 rfl ?_; apply Exists.intro; refine ⟨?_, ?_⟩
  · rintro w ⟨⟨r1, r2, r3, r4, r5⟩, ⟨r6, r7⟩, ⟨r8, r9⟩, ⟨r10, r11⟩, ⟨r12, r13⟩⟩; go_simp; try with_reducible rfl
  simp only [Act.put, List.setIfInBounds_toArray, List.set_cons_succ, List.set_cons_zero]
  refine Lim.stepR 31 (fun _ => trivial) rfl (by kernel_rfl) (fun _ _ _ _ h => h) hC6 rfl ?_; apply Exists.intro; refine ⟨?_, ?_⟩
  · rintro w ⟨⟨r1, r2, r3, r4, r5⟩, ⟨r6, r7⟩, ⟨r8, r9⟩, ⟨r10, r11⟩, ⟨r12, r13⟩⟩; go_simp; try with_reducible rfl
  simp only [Act.put, List.setIfInBounds_toArray, List.set_cons_succ, List.set_cons_zero]
  refine Lim.stepR 32 (fun _ => trivial) rfl (by kernel_rfl) (fun _ _ _ _ h => h) hC6 rfl ?_; apply Exists.intro; refine ⟨?_, ?_⟩
  · rintro w ⟨⟨r1, r2, r3, r4, r5⟩, ⟨r6, r7⟩, ⟨r8, r9⟩, ⟨r10, r11⟩, ⟨r12, r13⟩⟩; go_simp; try with_reducible rfl
  simp only [Act.put, List.setIfInBounds_toArray, List.set_cons_succ, List.set_cons_zero]
  refine Lim.stepD (by kernel_rfl) ?_
  clear z6 z7 z8 z9 z10 z11 z12 z13 hC6
  go_wp2
  go_ret
  exact ⟨rfl, HBw7.out⟩
end Go.Proofs.Ytohjinbgbfggcaa
