/-
  Parts of the proof, in the order in which they build: PoTurn.
-/
import Derived.Deep.CutRange
import Derived.BigQuiet
import Derived.Test.YtobmhamdkngehaaA50
import Derived.Test.YtobmhamdkngehaaA52
import Derived.Test.YtobmhamdkngehaaA20
import Derived.Test.YtobmhamdkngehaaA7
set_option linter.unusedVariables false
set_option linter.unusedSimpArgs false
namespace Go.Proofs.Ytobmhamdkngehaa
open Go.RowKit Go.Shelf
open Lim

set_option maxRecDepth 20000 in
set_option maxHeartbeats 8000000 in
theorem pturned_any {B : Nat} {nv : Value} {ns : List Int} {a0 a1 a2 : Int} {w : World} (hB : B ≤ w.heap.size) (hn : RS B w nv ns.length (u8s ns)) (hnu : ∀ x ∈ ns, 0 ≤ x ∧ x ≤ 255) :
    Calls Try.prog 6 #[nv, .int .i64 a0, .int .i64 a1, .int .i64 a2] w fun e w' => e = .returned (.bool true) ∧ Below w.heap.size w w' := by
  have HA := Lib.hid (And.intro hB (And.intro hn hnu))
  obtain ⟨na, nc, rfl, -⟩ := hn
  clear hB hnu
  go_enter Try.func6, Try.ntmps6
  go_wp2_with fail
  refine (of_dk HA.out.1 HA.out.2.1 HA.out.2.2).mono ?_
  rintro e w1 ⟨rfl, hd0, hb1, hs1⟩
  have HD0 := Lib.hid (And.intro hd0 (And.intro hb1 hs1))
  clear hd0 hb1 hs1
  go_wp2_with fail
  refine (pmade_any (M := 10) (d := w.heap.size) (c0 := 0) (HD0.out.1.deck (n := 0) (by omega)) (by omega) (by omega)).mono ?_
  rintro e w3 ⟨av, gv, tv, p, T, dc0, rfl, hM, hdk, -, hgr, o1, o2, o3⟩
  have HM := Lib.hid hM
  have HOKp : Hid p.Ok := Lib.hid (hM.ok (by omega))
  have HLN := Lib.hid hM.lens
  have HK0 := Lib.hid (Mem.start1 HD0.out.2.1 HD0.out.2.2 hgr hdk o1 o2 o3)
  obtain ⟨S, hSe⟩ : ∃ S, S = w1.heap.size := ⟨_, rfl⟩
  rw [← hSe] at HK0
  obtain ⟨ha, hc, rfl⟩ : ∃ g cap, av = .slice (some ⟨g, 0, none⟩) p.ats.length cap := form_pos (r := rwI av p.ats.length p.ats) o1 (show 0 < p.ats.length by have := HLN.out; omega)
  obtain ⟨ga, gc, rfl⟩ : ∃ g cap, gv = .slice (some ⟨g, 0, none⟩) p.gr.length cap := form_pos (r := rwS gv p.gr.length p.gr) o2 (show 0 < p.gr.length by have := HLN.out; omega)
  obtain ⟨ta, tc, rfl⟩ : ∃ g cap, tv = .slice (some ⟨g, 0, none⟩) T.length cap := form_pos (r := rwI tv T.length T) o3 (show 0 < T.length by have := HLN.out; omega)
  clear hM hgr hdk o1 o2 o3 hSe HD0 HA
  go_wp2_with fail
  have HK1 := Lib.hid (HK0.out.lay (.cells #[.slice (some ⟨ha, 0, none⟩) p.ats.length hc, .slice (some ⟨ga, 0, none⟩) p.gr.length gc, .int .i64 p.tall, .int .i64 p.lo, .int .i64 p.hi] 27))
  obtain ⟨q, hqe⟩ : ∃ q, q = w3.heap.size := ⟨_, rfl⟩
  simp only [← hqe] at HK1 ⊢
  generalize w3.alloc (.cells #[.slice (some ⟨ha, 0, none⟩) p.ats.length hc, .slice (some ⟨ga, 0, none⟩) p.gr.length gc, .int .i64 p.tall, .int .i64 p.lo, .int .i64 p.hi] 27) = w4 at HK1 ⊢
  clear HK0 hqe
  obtain ⟨plo, hplo⟩ : ∃ x, x = p.lo := ⟨_, rfl⟩
  obtain ⟨phi, hphi⟩ : ∃ x, x = p.hi := ⟨_, rfl⟩
  have HBB : Hid (0 ≤ plo ∧ plo ≤ phi ∧ phi ≤ 398) := Lib.hid (by rw [hplo, hphi]; exact HM.out.bd)
  rw [← hplo, ← hphi] at HK1 ⊢
  clear hplo hphi
  obtain ⟨b0, b1, b2, b3, b4⟩ := HK1.out.box5 (q := q) (a := .slice (some ⟨ha, 0, none⟩) p.ats.length hc) (b := .slice (some ⟨ga, 0, none⟩) p.gr.length gc) (e := .int .i64 p.tall) (f := .int .i64 plo) (g := .int .i64 phi) (t := 27) (by simp)
  obtain ⟨y0, y1, y2, y3, y4⟩ := HK1.out.frz5 (q := q) (t := 27) List.mem_cons_self
  have h1 := four_part HBB.out.1
  have h2 := four_part (Int.le_trans HBB.out.1 HBB.out.2.1)
  obtain ⟨r1, hr1⟩ : ∃ r, plo.tmod 4 = r := ⟨_, rfl⟩
  obtain ⟨r2, hr2⟩ : ∃ r, phi.tmod 4 = r := ⟨_, rfl⟩
  obtain ⟨l4, hl4⟩ : ∃ r, plo.tdiv 4 = r := ⟨_, rfl⟩
  obtain ⟨h4, hh4⟩ : ∃ r, phi.tdiv 4 = r := ⟨_, rfl⟩
  rw [hr1, hl4] at h1
  rw [hr2, hh4] at h2
  have hlh : l4 ≤ h4 := by rw [← hl4, ← hh4]; have := HBB.out; rw [Int.tdiv_eq_ediv_of_nonneg (by omega), Int.tdiv_eq_ediv_of_nonneg (by omega)]; omega
  have hh398 : phi ≤ 398 := HBB.out.2.2
  have ew1 : IntKind.i64.wrap r1 = r1 := IntWalk.i64_in _ (by omega)
  have ew2 : IntKind.i64.wrap r2 = r2 := IntWalk.i64_in _ (by omega)
  have ew3 : IntKind.i64.wrap (plo - r1) = plo - r1 := IntWalk.i64_in _ (by omega)
  have ew4 : IntKind.i64.wrap (phi - r2) = phi - r2 := IntWalk.i64_in _ (by omega)
  have hrr : -10 ≤ plo - r1 ∧ plo - r1 ≤ 400 ∧ -10 ≤ phi - r2 ∧ phi - r2 ≤ 400 := by omega
  have HBD0 : Hid (plo - r1 = 4 * l4 ∧ phi - r2 = 4 * h4 ∧ 0 ≤ l4 ∧ l4 ≤ h4 ∧ 4 * h4 ≤ 398) := Lib.hid (by omega)
  clear h1 h2 hl4 hh4 hlh hh398
  go_wp2_with fail
  rw [hr1, hr2, IntWalk.wrap64_in (plo - r1) (by omega), IntWalk.wrap64_in (phi - r2) (by omega)]
  refine (span_any (plo - r1) (phi - r2) _).mono ?_
  rintro e w5 ⟨rfl, hb⟩
  have HK2 := Lib.hid (HK1.out.grow hb)
  clear hb HK1 hr1 hr2 ew1 ew2 ew3 ew4 b0 b1 b2 b3 b4 y0 y1 y2 y3 y4
  obtain ⟨la, hla⟩ : ∃ x, plo - r1 = x := ⟨_, rfl⟩
  obtain ⟨lb, hlb⟩ : ∃ x, phi - r2 = x := ⟨_, rfl⟩
  have HBD : Hid (la = 4 * l4 ∧ lb = 4 * h4 ∧ 0 ≤ l4 ∧ l4 ≤ h4 ∧ 4 * h4 ≤ 398) := Lib.hid (by rw [← hla, ← hlb]; exact HBD0.out)
  rw [hla, hlb]
  clear hla hlb HBD0
  obtain ⟨b0, b1, b2, b3, b4⟩ := HK2.out.box5 (q := q) (a := .slice (some ⟨ha, 0, none⟩) p.ats.length hc) (b := .slice (some ⟨ga, 0, none⟩) p.gr.length gc) (e := .int .i64 p.tall) (f := .int .i64 plo) (g := .int .i64 phi) (t := 27) (by simp)
  obtain ⟨y0, y1, y2, y3, y4⟩ := HK2.out.frz5 (q := q) (t := 27) List.mem_cons_self
  go_upto_region 3 with (fail)
  have HK3 : Hid (Mem w S w.heap.size dc0 [rwI (.slice (some ⟨ha, 0, none⟩) p.ats.length hc) p.ats.length p.ats, rwS (.slice (some ⟨ga, 0, none⟩) p.gr.length gc) p.gr.length p.gr, rwI (.slice (some ⟨ta, 0, none⟩) T.length tc) T.length T] [] [(q, Obj.cells #[.slice (some ⟨ha, 0, none⟩) p.ats.length hc, .slice (some ⟨ga, 0, none⟩) p.gr.length gc, .int .i64 p.tall, .int .i64 la, .int .i64 lb] 27 (0, 0))] ((w5.setCell ⟨q, 3, none⟩ (.int .i64 la)).setCell ⟨q, 4, none⟩ (.int .i64 lb))) := Lib.hid ((HK2.out.putX (X1 := []) 3 (.int .i64 la)).putX (X1 := []) 4 (.int .i64 lb))
  clear HK2 b0 b1 b2 b3 b4 y0 y1 y2 y3 y4
  generalize (w5.setCell ⟨q, 3, none⟩ (.int .i64 la)).setCell ⟨q, 4, none⟩ (.int .i64 lb) = w6 at HK3 ⊢
  have HOK : Hid (bendP p la lb).Ok := Lib.hid (bendP_ok HOKp.out (by have := HBD.out; omega))
  obtain ⟨b0, b1, b2, b3, b4⟩ := HK3.out.box5 (q := q) (a := .slice (some ⟨ha, 0, none⟩) p.ats.length hc) (b := .slice (some ⟨ga, 0, none⟩) p.gr.length gc) (e := .int .i64 p.tall) (f := .int .i64 la) (g := .int .i64 lb) (t := 27) (by simp)
  go_wp2_with fail
  refine (fold_nat (v := a0) (n := p.ats.length) _ (by have := HLN.out; omega)).mono ?_
  rintro e w7 ⟨x, rfl, hx, rfl⟩
  go_wp2_with fail
  refine (fold_nat (v := a1) (n := p.ats.length) _ (by have := HLN.out; omega)).mono ?_
  rintro e w8 ⟨y, rfl, hy, rfl⟩
  have HXY : Hid (x < p.n ∧ y < p.n) := Lib.hid (by have := HLN.out; omega)
  clear hx hy b0 b1 b2 b3 b4
  by_cases hxy : x = y
  · subst hxy
    go_wp2_with fail
    refine (awake_any _).mono ?_
    rintro e w7 ⟨rfl, hb⟩
    have HB := Lib.hid (HK3.out.b.trans (hb.mono HK3.out.b.size))
    clear hb
    go_wp2
    go_ret
    exact ⟨rfl, HB.out⟩
  · have HNE := Lib.hid hxy
    have hbe : ((x : Int) == (y : Int)) = false := by rw [beq_eq_false_iff_ne]; omega
    clear hxy
    go_upto_region 7 with (fail)
    clear hbe
    obtain ⟨N, hN⟩ : ∃ N : Nat, (p.ats.length : Int) = (N : Int) := ⟨_, rfl⟩
    rw [hN]
    obtain ⟨N1, hN1⟩ : ∃ N1 : Nat, N = N1 + 1 := ⟨N - 1, by have := HLN.out; omega⟩
    have HNN : Hid (p.ats.length = N ∧ N = N1 + 1 ∧ N ≤ 10) := Lib.hid ⟨by omega, hN1, by have := HLN.out; omega⟩
    clear hN hN1
    have hC : (fun W => W.cell? ⟨q, 0, none⟩ = some (.slice (some ⟨ha, 0, none⟩) p.ats.length hc) ∧ W.cell? ⟨q, 1, none⟩ = some (.slice (some ⟨ga, 0, none⟩) p.gr.length gc) ∧ W.cell? ⟨q, 2, none⟩ = some (.int .i64 p.tall) ∧ W.cell? ⟨q, 3, none⟩ = some (.int .i64 la) ∧ W.cell? ⟨q, 4, none⟩ = some (.int .i64 lb)) w6.drew := HK3.out.drew.box5 (t := 27) (List.mem_singleton.2 rfl)
    refine Lim.regC' (fun W => W.cell? ⟨q, 0, none⟩ = some (.slice (some ⟨ha, 0, none⟩) p.ats.length hc) ∧ W.cell? ⟨q, 1, none⟩ = some (.slice (some ⟨ga, 0, none⟩) p.gr.length gc) ∧ W.cell? ⟨q, 2, none⟩ = some (.int .i64 p.tall) ∧ W.cell? ⟨q, 3, none⟩ = some (.int .i64 la) ∧ W.cell? ⟨q, 4, none⟩ = some (.int .i64 lb)) [] #[false, false, false, false, false, false, false, false, false, false, false, false] (by kernel_rfl) rfl ?_
    refine Lim.stepR 0 (fun _ => trivial) rfl (by kernel_rfl) (fun _ _ _ _ h => h) hC rfl ?_; apply Exists.intro; refine ⟨?_, ?_⟩
    · rintro w ⟨r0, r1, r2, r3, r4⟩; go_simp; try with_reducible rfl
    simp only [Act.put, List.setIfInBounds_toArray, List.set_cons_succ, List.set_cons_zero]
    refine Lim.stepR 2 (fun _ => trivial) rfl (by kernel_rfl) (fun _ _ _ _ h => h) hC rfl ?_; apply Exists.intro; refine ⟨?_, ?_⟩
    · rintro w ⟨r0, r1, r2, r3, r4⟩; go_simp; try with_reducible rfl
    simp only [Act.put, List.setIfInBounds_toArray, List.set_cons_succ, List.set_cons_zero]
    refine Lim.stepR 4 (fun _ => trivial) rfl (by kernel_rfl) (fun _ _ _ _ h => h) hC rfl ?_; apply Exists.intro; refine ⟨?_, ?_⟩
    · rintro w ⟨r0, r1, r2, r3, r4⟩; go_simp; try with_reducible rfl
    simp only [Act.put, List.setIfInBounds_toArray, List.set_cons_succ, List.set_cons_zero]
    refine Lim.parC [1, 3, 5, 6, 7, 8, 9, 10, 11] (fun done a W => ∃ x71 x73 x75 x14 x15 x16 f1 f2 t1 t2 h1 h2 pf pt ph, a = { tmps := #[Value.slice na ns.length nc, Value.int IntKind.i64 a0, Value.int IntKind.i64 a1, Value.int IntKind.i64 a2, undef, undef, undef, undef, Value.bool false, Value.pointer (some ⟨q, 0, none⟩), Value.slice (some ⟨ta, 0, none⟩) T.length tc, Value.int IntKind.i64 N, Value.int IntKind.i64 x, Value.int IntKind.i64 y, x14, x15, x16, undef, undef, undef, undef, undef, undef, undef, undef, undef, undef, undef, undef, undef, undef, undef, undef, Value.tuple #[Value.agg #[Value.slice (some ⟨ha, 0, none⟩) p.ats.length hc, Value.slice (some ⟨ga, 0, none⟩) p.gr.length gc, Value.int IntKind.i64 p.tall, Value.int IntKind.i64 plo, Value.int IntKind.i64 phi], Value.slice (some ⟨ta, 0, none⟩) T.length tc], Value.slice na ns.length nc, Value.pointer (some ⟨w.heap.size, 0, none⟩), Value.tuple #[Value.agg #[Value.slice (some ⟨ha, 0, none⟩) p.ats.length hc, Value.slice (some ⟨ga, 0, none⟩) p.gr.length gc, Value.int IntKind.i64 p.tall, Value.int IntKind.i64 plo, Value.int IntKind.i64 phi], Value.slice (some ⟨ta, 0, none⟩) T.length tc], Value.agg #[Value.slice (some ⟨ha, 0, none⟩) p.ats.length hc, Value.slice (some ⟨ga, 0, none⟩) p.gr.length gc, Value.int IntKind.i64 p.tall, Value.int IntKind.i64 plo, Value.int IntKind.i64 phi], Value.slice (some ⟨ta, 0, none⟩) T.length tc, Value.pointer (some ⟨q, 3, none⟩), Value.pointer (some ⟨q, 3, none⟩), Value.int IntKind.i64 plo, Value.pointer (some ⟨q, 3, none⟩), Value.pointer (some ⟨q, 3, none⟩), Value.int IntKind.i64 plo, Value.int IntKind.i64 r1, Value.int IntKind.i64 la, Value.pointer (some ⟨q, 3, none⟩), Value.pointer (some ⟨q, 4, none⟩), Value.int IntKind.i64 phi, Value.pointer (some ⟨q, 3, none⟩), Value.pointer (some ⟨q, 4, none⟩), Value.int IntKind.i64 phi, Value.int IntKind.i64 r2, Value.int IntKind.i64 lb, Value.agg #[Value.int IntKind.i64 la, Value.int IntKind.i64 lb], Value.pointer (some ⟨q, 3, none⟩), Value.pointer (some ⟨q, 0, none⟩), Value.slice (some ⟨ha, 0, none⟩) p.ats.length hc, Value.int IntKind.i64 N, Value.int IntKind.i64 a0, Value.int IntKind.i64 N, Value.int IntKind.i64 x, Value.int IntKind.i64 a1, Value.int IntKind.i64 N, Value.int IntKind.i64 y, Value.int IntKind.i64 x, Value.int IntKind.i64 y, Value.bool false, undef, Value.agg #[Value.slice (some ⟨ha, 0, none⟩) p.ats.length hc, Value.slice (some ⟨ga, 0, none⟩) p.gr.length gc, Value.int IntKind.i64 p.tall, Value.int IntKind.i64 la, Value.int IntKind.i64 lb], x71, Value.agg #[Value.slice (some ⟨ha, 0, none⟩) p.ats.length hc, Value.slice (some ⟨ga, 0, none⟩) p.gr.length gc, Value.int IntKind.i64 p.tall, Value.int IntKind.i64 la, Value.int IntKind.i64 lb], x73, Value.agg #[Value.slice (some ⟨ha, 0, none⟩) p.ats.length hc, Value.slice (some ⟨ga, 0, none⟩) p.gr.length gc, Value.int IntKind.i64 p.tall, Value.int IntKind.i64 la, Value.int IntKind.i64 lb], x75, undef, undef, undef, undef, undef, undef, undef, undef, undef, undef, undef, undef, undef, undef, undef, undef, undef, undef, undef, undef, undef, undef, undef, undef, undef, undef, undef, undef, undef, undef, undef, undef, undef, undef, undef, undef, undef, undef, undef, undef, undef, undef, undef, undef, undef, undef, undef, undef, undef, undef, undef, undef, undef, undef, undef, undef, undef, undef, undef, undef, undef, undef, undef, undef, undef, undef, undef, undef, undef, undef, undef, undef, undef, undef, undef, undef, undef, undef, undef, undef, undef, undef, undef, undef, undef, undef, undef, undef, undef, undef, undef, undef, undef, undef, undef, undef, undef, undef, undef, undef, undef, undef, undef, undef, undef, undef, undef, undef, undef, undef, undef, undef, undef, undef, undef, undef, undef, undef, undef, undef, undef, undef, undef, undef, undef, undef, undef, undef, undef, undef, undef, undef, undef, undef, undef, undef, undef, undef, undef, undef, undef, undef], defers := [] } ∧ Mem w S w.heap.size dc0 [rwI (.slice (some ⟨ha, 0, none⟩) p.ats.length hc) p.ats.length p.ats, rwS (.slice (some ⟨ga, 0, none⟩) p.gr.length gc) p.gr.length p.gr, rwI (.slice (some ⟨ta, 0, none⟩) T.length tc) T.length T] (onP (done 1) (rwI f1 p.ats.length p.ats) (rwS f2 p.gr.length p.gr) ++ (onP (done 3) (rwI t1 p.ats.length p.ats) (rwS t2 p.gr.length p.gr) ++ (onP (done 5) (rwI h1 p.ats.length p.ats) (rwS h2 p.gr.length p.gr) ++ ([])))) (onX (done 6) pf (cond (done 9) (prof5 (bendP p la lb) f1 f2) zero5) ++ (onX (done 7) pt (cond (done 10) (prof5 (bendP p la lb) t1 t2) zero5) ++ (onX (done 8) ph (cond (done 11) (prof5 (bendP p la lb) h1 h2) zero5) ++ ([(q, Obj.cells #[.slice (some ⟨ha, 0, none⟩) p.ats.length hc, .slice (some ⟨ga, 0, none⟩) p.gr.length gc, .int .i64 p.tall, .int .i64 la, .int .i64 lb] 27 (0, 0))])))) W ∧ (done 1 = true → x71 = .agg #[f1, f2, .int .i64 p.tall, .int .i64 la, .int .i64 lb]) ∧ (done 3 = true → x73 = .agg #[t1, t2, .int .i64 p.tall, .int .i64 la, .int .i64 lb]) ∧ (done 5 = true → x75 = .agg #[h1, h2, .int .i64 p.tall, .int .i64 la, .int .i64 lb]) ∧ (done 6 = true → x14 = .pointer (some ⟨pf, 0, none⟩)) ∧ (done 7 = true → x15 = .pointer (some ⟨pt, 0, none⟩)) ∧ (done 8 = true → x16 = .pointer (some ⟨ph, 0, none⟩)) ∧ (done 9 = true → done 1 = true ∧ done 6 = true) ∧ (done 10 = true → done 3 = true ∧ done 7 = true) ∧ (done 11 = true → done 5 = true ∧ done 8 = true)) (fun _ => trivial) (by kernel_rfl) rfl rfl ?hC ?step ?fin ⟨_, _, _, _, _, _, undef, undef, undef, undef, undef, undef, 0, 0, 0, rfl, HK3.out.drew, fun h => (by cases h), fun h => (by cases h), fun h => (by cases h), fun h => (by cases h), fun h => (by cases h), fun h => (by cases h), fun h => (by cases h), fun h => (by cases h), fun h => (by cases h)⟩
    case hC =>
      rintro done a W ⟨x71, x73, x75, x14, x15, x16, f1, f2, t1, t2, h1, h2, pf, pt, ph, rfl, H, e1, e3, e5, e6, e7, e8, e9, e10, e11⟩
      exact H.box5 (q := q) (t := 27) (by simp)
    case step =>
      intro i o hi ho done a W hd hdep hS K hK
      obtain ⟨x71, x73, x75, x14, x15, x16, f1, f2, t1, t2, h1, h2, pf, pt, ph, rfl, H, e1, e3, e5, e6, e7, e8, e9, e10, e11⟩ := hS
      simp only [List.mem_cons, List.not_mem_nil, or_false] at hi
      rcases hi with rfl | rfl | rfl | rfl | rfl | rfl | rfl | rfl | rfl
      · cases ho
        clear hdep
        have n9 : done 9 = false := by
          cases h : done 9 with
          | false => rfl
          | true => exact absurd (e9 h).1 (by rw [hd]; decide)
        rw [onP_no hd, n9] at H
        have hxq : (q, Obj.cells #[.slice (some ⟨ha, 0, none⟩) p.ats.length hc, .slice (some ⟨ga, 0, none⟩) p.gr.length gc, .int .i64 p.tall, .int .i64 la, .int .i64 lb] 27 (0, 0)) ∈ [(q, Obj.cells #[.slice (some ⟨ha, 0, none⟩) p.ats.length hc, .slice (some ⟨ga, 0, none⟩) p.gr.length gc, .int .i64 p.tall, .int .i64 la, .int .i64 lb] 27 (0, 0))] := List.mem_singleton.2 rfl
        go_simp
        refine ⟨rfl, (callsIn_wide.2 (pclone_any (B := W.heap.size) (ats := p.ats) (gr := p.gr) (Nat.le_refl _) (H.rsI (v := .slice (some ⟨ha, 0, none⟩) p.ats.length hc) (n := p.ats.length) (.inl (by simp)) rfl) (H.rsS (v := .slice (some ⟨ga, 0, none⟩) p.gr.length gc) (n := p.gr.length) (.inl (by simp)) rfl) (by have := HLN.out; omega) (by have := HLN.out; omega))).mono ?_⟩
        rintro e W' ⟨cv, dv, rfl, o1, o2, hb⟩
        refine hK _ _ ?_
        refine ⟨_, x73, x75, x14, x15, x16, cv, dv, t1, t2, h1, h2, pf, pt, ph, rfl, ?_, fun _ => rfl, e3, e5, e6, e7, e8, fun h => ⟨rfl, (e9 h).2⟩, e10, e11⟩
        show Mem w S w.heap.size dc0 [rwI (.slice (some ⟨ha, 0, none⟩) p.ats.length hc) p.ats.length p.ats, rwS (.slice (some ⟨ga, 0, none⟩) p.gr.length gc) p.gr.length p.gr, rwI (.slice (some ⟨ta, 0, none⟩) T.length tc) T.length T] (onP (true) (rwI cv p.ats.length p.ats) (rwS dv p.gr.length p.gr) ++ (onP (done 3) (rwI t1 p.ats.length p.ats) (rwS t2 p.gr.length p.gr) ++ (onP (done 5) (rwI h1 p.ats.length p.ats) (rwS h2 p.gr.length p.gr) ++ ([])))) (onX (done 6) pf (cond (done 9) (prof5 (bendP p la lb) cv dv) zero5) ++ (onX (done 7) pt (cond (done 10) (prof5 (bendP p la lb) t1 t2) zero5) ++ (onX (done 8) ph (cond (done 11) (prof5 (bendP p la lb) h1 h2) zero5) ++ ([(q, Obj.cells #[.slice (some ⟨ha, 0, none⟩) p.ats.length hc, .slice (some ⟨ga, 0, none⟩) p.gr.length gc, .int .i64 p.tall, .int .i64 la, .int .i64 lb] 27 (0, 0))])))) W'
        rw [n9]
        exact Mem.ins2 (r := rwI cv p.ats.length p.ats) (s := rwS dv p.gr.length p.gr) (Q1 := []) H hb o1 o2 (by show 3 ≠ 25; decide)
      · cases ho
        clear hdep
        have n10 : done 10 = false := by
          cases h : done 10 with
          | false => rfl
          | true => exact absurd (e10 h).1 (by rw [hd]; decide)
        rw [onP_no hd, n10] at H
        have hxq : (q, Obj.cells #[.slice (some ⟨ha, 0, none⟩) p.ats.length hc, .slice (some ⟨ga, 0, none⟩) p.gr.length gc, .int .i64 p.tall, .int .i64 la, .int .i64 lb] 27 (0, 0)) ∈ [(q, Obj.cells #[.slice (some ⟨ha, 0, none⟩) p.ats.length hc, .slice (some ⟨ga, 0, none⟩) p.gr.length gc, .int .i64 p.tall, .int .i64 la, .int .i64 lb] 27 (0, 0))] := List.mem_singleton.2 rfl
        go_simp
        refine ⟨rfl, (callsIn_wide.2 (pclone_any (B := W.heap.size) (ats := p.ats) (gr := p.gr) (Nat.le_refl _) (H.rsI (v := .slice (some ⟨ha, 0, none⟩) p.ats.length hc) (n := p.ats.length) (.inl (by simp)) rfl) (H.rsS (v := .slice (some ⟨ga, 0, none⟩) p.gr.length gc) (n := p.gr.length) (.inl (by simp)) rfl) (by have := HLN.out; omega) (by have := HLN.out; omega))).mono ?_⟩
        rintro e W' ⟨cv, dv, rfl, o1, o2, hb⟩
        refine hK _ _ ?_
        refine ⟨x71, _, x75, x14, x15, x16, f1, f2, cv, dv, h1, h2, pf, pt, ph, rfl, ?_, e1, fun _ => rfl, e5, e6, e7, e8, e9, fun h => ⟨rfl, (e10 h).2⟩, e11⟩
        show Mem w S w.heap.size dc0 [rwI (.slice (some ⟨ha, 0, none⟩) p.ats.length hc) p.ats.length p.ats, rwS (.slice (some ⟨ga, 0, none⟩) p.gr.length gc) p.gr.length p.gr, rwI (.slice (some ⟨ta, 0, none⟩) T.length tc) T.length T] (onP (done 1) (rwI f1 p.ats.length p.ats) (rwS f2 p.gr.length p.gr) ++ (onP (true) (rwI cv p.ats.length p.ats) (rwS dv p.gr.length p.gr) ++ (onP (done 5) (rwI h1 p.ats.length p.ats) (rwS h2 p.gr.length p.gr) ++ ([])))) (onX (done 6) pf (cond (done 9) (prof5 (bendP p la lb) f1 f2) zero5) ++ (onX (done 7) pt (cond (done 10) (prof5 (bendP p la lb) cv dv) zero5) ++ (onX (done 8) ph (cond (done 11) (prof5 (bendP p la lb) h1 h2) zero5) ++ ([(q, Obj.cells #[.slice (some ⟨ha, 0, none⟩) p.ats.length hc, .slice (some ⟨ga, 0, none⟩) p.gr.length gc, .int .i64 p.tall, .int .i64 la, .int .i64 lb] 27 (0, 0))])))) W'
        rw [n10]
        exact Mem.ins2 (r := rwI cv p.ats.length p.ats) (s := rwS dv p.gr.length p.gr) (Q1 := onP (done 1) (rwI f1 p.ats.length p.ats) (rwS f2 p.gr.length p.gr)) H hb o1 o2 (by show 3 ≠ 25; decide)
      · cases ho
        clear hdep
        have n11 : done 11 = false := by
          cases h : done 11 with
          | false => rfl
          | true => exact absurd (e11 h).1 (by rw [hd]; decide)
        rw [onP_no hd, n11] at H
        have hxq : (q, Obj.cells #[.slice (some ⟨ha, 0, none⟩) p.ats.length hc, .slice (some ⟨ga, 0, none⟩) p.gr.length gc, .int .i64 p.tall, .int .i64 la, .int .i64 lb] 27 (0, 0)) ∈ [(q, Obj.cells #[.slice (some ⟨ha, 0, none⟩) p.ats.length hc, .slice (some ⟨ga, 0, none⟩) p.gr.length gc, .int .i64 p.tall, .int .i64 la, .int .i64 lb] 27 (0, 0))] := List.mem_singleton.2 rfl
        go_simp
        refine ⟨rfl, (callsIn_wide.2 (pclone_any (B := W.heap.size) (ats := p.ats) (gr := p.gr) (Nat.le_refl _) (H.rsI (v := .slice (some ⟨ha, 0, none⟩) p.ats.length hc) (n := p.ats.length) (.inl (by simp)) rfl) (H.rsS (v := .slice (some ⟨ga, 0, none⟩) p.gr.length gc) (n := p.gr.length) (.inl (by simp)) rfl) (by have := HLN.out; omega) (by have := HLN.out; omega))).mono ?_⟩
        rintro e W' ⟨cv, dv, rfl, o1, o2, hb⟩
        refine hK _ _ ?_
        refine ⟨x71, x73, _, x14, x15, x16, f1, f2, t1, t2, cv, dv, pf, pt, ph, rfl, ?_, e1, e3, fun _ => rfl, e6, e7, e8, e9, e10, fun h => ⟨rfl, (e11 h).2⟩⟩
        show Mem w S w.heap.size dc0 [rwI (.slice (some ⟨ha, 0, none⟩) p.ats.length hc) p.ats.length p.ats, rwS (.slice (some ⟨ga, 0, none⟩) p.gr.length gc) p.gr.length p.gr, rwI (.slice (some ⟨ta, 0, none⟩) T.length tc) T.length T] (onP (done 1) (rwI f1 p.ats.length p.ats) (rwS f2 p.gr.length p.gr) ++ (onP (done 3) (rwI t1 p.ats.length p.ats) (rwS t2 p.gr.length p.gr) ++ (onP (true) (rwI cv p.ats.length p.ats) (rwS dv p.gr.length p.gr) ++ ([])))) (onX (done 6) pf (cond (done 9) (prof5 (bendP p la lb) f1 f2) zero5) ++ (onX (done 7) pt (cond (done 10) (prof5 (bendP p la lb) t1 t2) zero5) ++ (onX (done 8) ph (cond (done 11) (prof5 (bendP p la lb) cv dv) zero5) ++ ([(q, Obj.cells #[.slice (some ⟨ha, 0, none⟩) p.ats.length hc, .slice (some ⟨ga, 0, none⟩) p.gr.length gc, .int .i64 p.tall, .int .i64 la, .int .i64 lb] 27 (0, 0))])))) W'
        rw [n11]
        exact (Mem.ins2 (r := rwI cv p.ats.length p.ats) (s := rwS dv p.gr.length p.gr) (Q1 := onP (done 1) (rwI f1 p.ats.length p.ats) (rwS f2 p.gr.length p.gr) ++ onP (done 3) (rwI t1 p.ats.length p.ats) (rwS t2 p.gr.length p.gr)) H.assocQ hb o1 o2 (by show 3 ≠ 25; decide)).unassocQ
      · cases ho
        clear hdep
        have n9 : done 9 = false := by
          cases h : done 9 with
          | false => rfl
          | true => exact absurd (e9 h).2 (by rw [hd]; decide)
        rw [onX_no hd] at H
        go_simp
        refine hK _ _ ?_
        refine ⟨x71, x73, x75, _, x15, x16, f1, f2, t1, t2, h1, h2, W.heap.size, pt, ph, rfl, ?_, e1, e3, e5, fun _ => rfl, e7, e8, fun h => ⟨(e9 h).1, rfl⟩, e10, e11⟩
        show Mem w S w.heap.size dc0 [rwI (.slice (some ⟨ha, 0, none⟩) p.ats.length hc) p.ats.length p.ats, rwS (.slice (some ⟨ga, 0, none⟩) p.gr.length gc) p.gr.length p.gr, rwI (.slice (some ⟨ta, 0, none⟩) T.length tc) T.length T] (onP (done 1) (rwI f1 p.ats.length p.ats) (rwS f2 p.gr.length p.gr) ++ (onP (done 3) (rwI t1 p.ats.length p.ats) (rwS t2 p.gr.length p.gr) ++ (onP (done 5) (rwI h1 p.ats.length p.ats) (rwS h2 p.gr.length p.gr) ++ ([])))) (onX (true) W.heap.size (cond (done 9) (prof5 (bendP p la lb) f1 f2) zero5) ++ (onX (done 7) pt (cond (done 10) (prof5 (bendP p la lb) t1 t2) zero5) ++ (onX (done 8) ph (cond (done 11) (prof5 (bendP p la lb) h1 h2) zero5) ++ ([(q, Obj.cells #[.slice (some ⟨ha, 0, none⟩) p.ats.length hc, .slice (some ⟨ga, 0, none⟩) p.gr.length gc, .int .i64 p.tall, .int .i64 la, .int .i64 lb] 27 (0, 0))])))) (W.alloc zero5)
        rw [n9]
        exact Mem.insX (X1 := []) H zero5
      · cases ho
        clear hdep
        have n10 : done 10 = false := by
          cases h : done 10 with
          | false => rfl
          | true => exact absurd (e10 h).2 (by rw [hd]; decide)
        rw [onX_no hd] at H
        go_simp
        refine hK _ _ ?_
        refine ⟨x71, x73, x75, x14, _, x16, f1, f2, t1, t2, h1, h2, pf, W.heap.size, ph, rfl, ?_, e1, e3, e5, e6, fun _ => rfl, e8, e9, fun h => ⟨(e10 h).1, rfl⟩, e11⟩
        show Mem w S w.heap.size dc0 [rwI (.slice (some ⟨ha, 0, none⟩) p.ats.length hc) p.ats.length p.ats, rwS (.slice (some ⟨ga, 0, none⟩) p.gr.length gc) p.gr.length p.gr, rwI (.slice (some ⟨ta, 0, none⟩) T.length tc) T.length T] (onP (done 1) (rwI f1 p.ats.length p.ats) (rwS f2 p.gr.length p.gr) ++ (onP (done 3) (rwI t1 p.ats.length p.ats) (rwS t2 p.gr.length p.gr) ++ (onP (done 5) (rwI h1 p.ats.length p.ats) (rwS h2 p.gr.length p.gr) ++ ([])))) (onX (done 6) pf (cond (done 9) (prof5 (bendP p la lb) f1 f2) zero5) ++ (onX (true) W.heap.size (cond (done 10) (prof5 (bendP p la lb) t1 t2) zero5) ++ (onX (done 8) ph (cond (done 11) (prof5 (bendP p la lb) h1 h2) zero5) ++ ([(q, Obj.cells #[.slice (some ⟨ha, 0, none⟩) p.ats.length hc, .slice (some ⟨ga, 0, none⟩) p.gr.length gc, .int .i64 p.tall, .int .i64 la, .int .i64 lb] 27 (0, 0))])))) (W.alloc zero5)
        rw [n10]
        exact Mem.insX (X1 := onX (done 6) pf (cond (done 9) (prof5 (bendP p la lb) f1 f2) zero5)) H zero5
      · cases ho
        clear hdep
        have n11 : done 11 = false := by
          cases h : done 11 with
          | false => rfl
          | true => exact absurd (e11 h).2 (by rw [hd]; decide)
        rw [onX_no hd] at H
        go_simp
        refine hK _ _ ?_
        refine ⟨x71, x73, x75, x14, x15, _, f1, f2, t1, t2, h1, h2, pf, pt, W.heap.size, rfl, ?_, e1, e3, e5, e6, e7, fun _ => rfl, e9, e10, fun h => ⟨(e11 h).1, rfl⟩⟩
        show Mem w S w.heap.size dc0 [rwI (.slice (some ⟨ha, 0, none⟩) p.ats.length hc) p.ats.length p.ats, rwS (.slice (some ⟨ga, 0, none⟩) p.gr.length gc) p.gr.length p.gr, rwI (.slice (some ⟨ta, 0, none⟩) T.length tc) T.length T] (onP (done 1) (rwI f1 p.ats.length p.ats) (rwS f2 p.gr.length p.gr) ++ (onP (done 3) (rwI t1 p.ats.length p.ats) (rwS t2 p.gr.length p.gr) ++ (onP (done 5) (rwI h1 p.ats.length p.ats) (rwS h2 p.gr.length p.gr) ++ ([])))) (onX (done 6) pf (cond (done 9) (prof5 (bendP p la lb) f1 f2) zero5) ++ (onX (done 7) pt (cond (done 10) (prof5 (bendP p la lb) t1 t2) zero5) ++ (onX (true) W.heap.size (cond (done 11) (prof5 (bendP p la lb) h1 h2) zero5) ++ ([(q, Obj.cells #[.slice (some ⟨ha, 0, none⟩) p.ats.length hc, .slice (some ⟨ga, 0, none⟩) p.gr.length gc, .int .i64 p.tall, .int .i64 la, .int .i64 lb] 27 (0, 0))])))) (W.alloc zero5)
        rw [n11]
        exact (Mem.insX (X1 := onX (done 6) pf (cond (done 9) (prof5 (bendP p la lb) f1 f2) zero5) ++ onX (done 7) pt (cond (done 10) (prof5 (bendP p la lb) t1 t2) zero5)) H.assocX zero5).unassocX
      · cases ho
        have hcl := hdep 1 (by kernel_rfl) (by simp)
        have hl := hdep 6 (by kernel_rfl) (by simp)
        clear hdep
        obtain rfl := e1 hcl
        obtain rfl := e6 hl
        obtain ⟨ga1, ca1, rfl⟩ : ∃ g cap, f1 = .slice (some ⟨g, 0, none⟩) p.ats.length cap := form_pos (r := rwI f1 p.ats.length p.ats) (H.q _ (by rw [onP_yes hcl]; simp)) (show 0 < p.ats.length by have := HLN.out; omega)
        obtain ⟨ga2, ca2, rfl⟩ : ∃ g cap, f2 = .slice (some ⟨g, 0, none⟩) p.gr.length cap := form_pos (r := rwS f2 p.gr.length p.gr) (H.q _ (by rw [onP_yes hcl]; simp)) (show 0 < p.gr.length by have := HLN.out; omega)
        rw [onX_yes hl, hd] at H
        obtain ⟨⟨z0, z1, z2, z3, z4⟩, y0, y1, y2, y3, y4⟩ := five_cells (show W.heap[pf]? = some (.cells #[.slice none 0 0, .slice none 0 0, .int .i64 0, .int .i64 0, .int .i64 0] 27 (0, 0)) from (H.x (pf, zero5) (by simp)).2)
        go_simp
        clear z0 z1 z2 z3 z4 y0 y1 y2 y3 y4
        refine hK _ _ ?_
        refine ⟨_, x73, x75, _, x15, x16, .slice (some ⟨ga1, 0, none⟩) p.ats.length ca1, .slice (some ⟨ga2, 0, none⟩) p.gr.length ca2, t1, t2, h1, h2, pf, pt, ph, rfl, ?_, fun _ => rfl, e3, e5, fun _ => rfl, e7, e8, fun _ => ⟨hcl, hl⟩, e10, e11⟩
        show Mem w S w.heap.size dc0 [rwI (.slice (some ⟨ha, 0, none⟩) p.ats.length hc) p.ats.length p.ats, rwS (.slice (some ⟨ga, 0, none⟩) p.gr.length gc) p.gr.length p.gr, rwI (.slice (some ⟨ta, 0, none⟩) T.length tc) T.length T] (onP (done 1) (rwI (.slice (some ⟨ga1, 0, none⟩) p.ats.length ca1) p.ats.length p.ats) (rwS (.slice (some ⟨ga2, 0, none⟩) p.gr.length ca2) p.gr.length p.gr) ++ (onP (done 3) (rwI t1 p.ats.length p.ats) (rwS t2 p.gr.length p.gr) ++ (onP (done 5) (rwI h1 p.ats.length p.ats) (rwS h2 p.gr.length p.gr) ++ ([])))) (onX (done 6) pf (cond (true) (prof5 (bendP p la lb) (.slice (some ⟨ga1, 0, none⟩) p.ats.length ca1) (.slice (some ⟨ga2, 0, none⟩) p.gr.length ca2)) zero5) ++ (onX (done 7) pt (cond (done 10) (prof5 (bendP p la lb) t1 t2) zero5) ++ (onX (done 8) ph (cond (done 11) (prof5 (bendP p la lb) h1 h2) zero5) ++ ([(q, Obj.cells #[.slice (some ⟨ha, 0, none⟩) p.ats.length hc, .slice (some ⟨ga, 0, none⟩) p.gr.length gc, .int .i64 p.tall, .int .i64 la, .int .i64 lb] 27 (0, 0))])))) _
        rw [onX_yes hl]
        exact Mem.put5 (X1 := []) H _ _ _ _ _
      · cases ho
        have hcl := hdep 3 (by kernel_rfl) (by simp)
        have hl := hdep 7 (by kernel_rfl) (by simp)
        clear hdep
        obtain rfl := e3 hcl
        obtain rfl := e7 hl
        obtain ⟨ga1, ca1, rfl⟩ : ∃ g cap, t1 = .slice (some ⟨g, 0, none⟩) p.ats.length cap := form_pos (r := rwI t1 p.ats.length p.ats) (H.q _ (by rw [onP_yes hcl]; simp)) (show 0 < p.ats.length by have := HLN.out; omega)
        obtain ⟨ga2, ca2, rfl⟩ : ∃ g cap, t2 = .slice (some ⟨g, 0, none⟩) p.gr.length cap := form_pos (r := rwS t2 p.gr.length p.gr) (H.q _ (by rw [onP_yes hcl]; simp)) (show 0 < p.gr.length by have := HLN.out; omega)
        rw [onX_yes hl, hd] at H
        obtain ⟨⟨z0, z1, z2, z3, z4⟩, y0, y1, y2, y3, y4⟩ := five_cells (show W.heap[pt]? = some (.cells #[.slice none 0 0, .slice none 0 0, .int .i64 0, .int .i64 0, .int .i64 0] 27 (0, 0)) from (H.x (pt, zero5) (by simp)).2)
        go_simp
        clear z0 z1 z2 z3 z4 y0 y1 y2 y3 y4
        refine hK _ _ ?_
        refine ⟨x71, _, x75, x14, _, x16, f1, f2, .slice (some ⟨ga1, 0, none⟩) p.ats.length ca1, .slice (some ⟨ga2, 0, none⟩) p.gr.length ca2, h1, h2, pf, pt, ph, rfl, ?_, e1, fun _ => rfl, e5, e6, fun _ => rfl, e8, e9, fun _ => ⟨hcl, hl⟩, e11⟩
        show Mem w S w.heap.size dc0 [rwI (.slice (some ⟨ha, 0, none⟩) p.ats.length hc) p.ats.length p.ats, rwS (.slice (some ⟨ga, 0, none⟩) p.gr.length gc) p.gr.length p.gr, rwI (.slice (some ⟨ta, 0, none⟩) T.length tc) T.length T] (onP (done 1) (rwI f1 p.ats.length p.ats) (rwS f2 p.gr.length p.gr) ++ (onP (done 3) (rwI (.slice (some ⟨ga1, 0, none⟩) p.ats.length ca1) p.ats.length p.ats) (rwS (.slice (some ⟨ga2, 0, none⟩) p.gr.length ca2) p.gr.length p.gr) ++ (onP (done 5) (rwI h1 p.ats.length p.ats) (rwS h2 p.gr.length p.gr) ++ ([])))) (onX (done 6) pf (cond (done 9) (prof5 (bendP p la lb) f1 f2) zero5) ++ (onX (done 7) pt (cond (true) (prof5 (bendP p la lb) (.slice (some ⟨ga1, 0, none⟩) p.ats.length ca1) (.slice (some ⟨ga2, 0, none⟩) p.gr.length ca2)) zero5) ++ (onX (done 8) ph (cond (done 11) (prof5 (bendP p la lb) h1 h2) zero5) ++ ([(q, Obj.cells #[.slice (some ⟨ha, 0, none⟩) p.ats.length hc, .slice (some ⟨ga, 0, none⟩) p.gr.length gc, .int .i64 p.tall, .int .i64 la, .int .i64 lb] 27 (0, 0))])))) _
        rw [onX_yes hl]
        exact Mem.put5 (X1 := onX (done 6) pf (cond (done 9) (prof5 (bendP p la lb) f1 f2) zero5)) H _ _ _ _ _
      · cases ho
        have hcl := hdep 5 (by kernel_rfl) (by simp)
        have hl := hdep 8 (by kernel_rfl) (by simp)
        clear hdep
        obtain rfl := e5 hcl
        obtain rfl := e8 hl
        obtain ⟨ga1, ca1, rfl⟩ : ∃ g cap, h1 = .slice (some ⟨g, 0, none⟩) p.ats.length cap := form_pos (r := rwI h1 p.ats.length p.ats) (H.q _ (by rw [onP_yes hcl]; simp)) (show 0 < p.ats.length by have := HLN.out; omega)
        obtain ⟨ga2, ca2, rfl⟩ : ∃ g cap, h2 = .slice (some ⟨g, 0, none⟩) p.gr.length cap := form_pos (r := rwS h2 p.gr.length p.gr) (H.q _ (by rw [onP_yes hcl]; simp)) (show 0 < p.gr.length by have := HLN.out; omega)
        rw [onX_yes hl, hd] at H
        obtain ⟨⟨z0, z1, z2, z3, z4⟩, y0, y1, y2, y3, y4⟩ := five_cells (show W.heap[ph]? = some (.cells #[.slice none 0 0, .slice none 0 0, .int .i64 0, .int .i64 0, .int .i64 0] 27 (0, 0)) from (H.x (ph, zero5) (by simp)).2)
        go_simp
        clear z0 z1 z2 z3 z4 y0 y1 y2 y3 y4
        refine hK _ _ ?_
        refine ⟨x71, x73, _, x14, x15, _, f1, f2, t1, t2, .slice (some ⟨ga1, 0, none⟩) p.ats.length ca1, .slice (some ⟨ga2, 0, none⟩) p.gr.length ca2, pf, pt, ph, rfl, ?_, e1, e3, fun _ => rfl, e6, e7, fun _ => rfl, e9, e10, fun _ => ⟨hcl, hl⟩⟩
        show Mem w S w.heap.size dc0 [rwI (.slice (some ⟨ha, 0, none⟩) p.ats.length hc) p.ats.length p.ats, rwS (.slice (some ⟨ga, 0, none⟩) p.gr.length gc) p.gr.length p.gr, rwI (.slice (some ⟨ta, 0, none⟩) T.length tc) T.length T] (onP (done 1) (rwI f1 p.ats.length p.ats) (rwS f2 p.gr.length p.gr) ++ (onP (done 3) (rwI t1 p.ats.length p.ats) (rwS t2 p.gr.length p.gr) ++ (onP (done 5) (rwI (.slice (some ⟨ga1, 0, none⟩) p.ats.length ca1) p.ats.length p.ats) (rwS (.slice (some ⟨ga2, 0, none⟩) p.gr.length ca2) p.gr.length p.gr) ++ ([])))) (onX (done 6) pf (cond (done 9) (prof5 (bendP p la lb) f1 f2) zero5) ++ (onX (done 7) pt (cond (done 10) (prof5 (bendP p la lb) t1 t2) zero5) ++ (onX (done 8) ph (cond (true) (prof5 (bendP p la lb) (.slice (some ⟨ga1, 0, none⟩) p.ats.length ca1) (.slice (some ⟨ga2, 0, none⟩) p.gr.length ca2)) zero5) ++ ([(q, Obj.cells #[.slice (some ⟨ha, 0, none⟩) p.ats.length hc, .slice (some ⟨ga, 0, none⟩) p.gr.length gc, .int .i64 p.tall, .int .i64 la, .int .i64 lb] 27 (0, 0))])))) _
        rw [onX_yes hl]
        exact (Mem.put5 (X1 := onX (done 6) pf (cond (done 9) (prof5 (bendP p la lb) f1 f2) zero5) ++ onX (done 7) pt (cond (done 10) (prof5 (bendP p la lb) t1 t2) zero5)) H.assocX _ _ _ _ _).unassocX
    case fin =>
      rintro done a W hall ⟨x71, x73, x75, x14, x15, x16, f1, f2, t1, t2, h1, h2, pf, pt, ph, rfl, H, e1, e3, e5, e6, e7, e8, e9, e10, e11⟩
      replace e1 := e1 (hall 1 (by simp))
      replace e3 := e3 (hall 3 (by simp))
      replace e5 := e5 (hall 5 (by simp))
      replace e6 := e6 (hall 6 (by simp))
      replace e7 := e7 (hall 7 (by simp))
      replace e8 := e8 (hall 8 (by simp))
      replace e9 := e9 (hall 9 (by simp))
      replace e10 := e10 (hall 10 (by simp))
      replace e11 := e11 (hall 11 (by simp))
      obtain rfl := e1
      obtain rfl := e3
      obtain rfl := e5
      obtain rfl := e6
      obtain rfl := e7
      obtain rfl := e8
      rw [onP_yes (hall 1 (by simp)), onP_yes (hall 3 (by simp)), onP_yes (hall 5 (by simp)), onX_yes (hall 6 (by simp)), onX_yes (hall 7 (by simp)), onX_yes (hall 8 (by simp)), hall 9 (by simp), hall 10 (by simp), hall 11 (by simp)] at H
      obtain ⟨fg1, fc1, rfl⟩ : ∃ g cap, f1 = .slice (some ⟨g, 0, none⟩) p.ats.length cap := form_pos (r := rwI f1 p.ats.length p.ats) (H.q _ (by simp)) (show 0 < p.ats.length by have := HLN.out; omega)
      obtain ⟨fg2, fc2, rfl⟩ : ∃ g cap, f2 = .slice (some ⟨g, 0, none⟩) p.gr.length cap := form_pos (r := rwS f2 p.gr.length p.gr) (H.q _ (by simp)) (show 0 < p.gr.length by have := HLN.out; omega)
      obtain ⟨tg1, tc1, rfl⟩ : ∃ g cap, t1 = .slice (some ⟨g, 0, none⟩) p.ats.length cap := form_pos (r := rwI t1 p.ats.length p.ats) (H.q _ (by simp)) (show 0 < p.ats.length by have := HLN.out; omega)
      obtain ⟨tg2, tc2, rfl⟩ : ∃ g cap, t2 = .slice (some ⟨g, 0, none⟩) p.gr.length cap := form_pos (r := rwS t2 p.gr.length p.gr) (H.q _ (by simp)) (show 0 < p.gr.length by have := HLN.out; omega)
      obtain ⟨hg1, hc1, rfl⟩ : ∃ g cap, h1 = .slice (some ⟨g, 0, none⟩) p.ats.length cap := form_pos (r := rwI h1 p.ats.length p.ats) (H.q _ (by simp)) (show 0 < p.ats.length by have := HLN.out; omega)
      obtain ⟨hg2, hc2, rfl⟩ : ∃ g cap, h2 = .slice (some ⟨g, 0, none⟩) p.gr.length cap := form_pos (r := rwS h2 p.gr.length p.gr) (H.q _ (by simp)) (show 0 < p.gr.length by have := HLN.out; omega)
      have HK4 : Hid (Mem w S w.heap.size dc0 [rwI (.slice (some ⟨ha, 0, none⟩) p.ats.length hc) p.ats.length p.ats, rwS (.slice (some ⟨ga, 0, none⟩) p.gr.length gc) p.gr.length p.gr, rwI (.slice (some ⟨ta, 0, none⟩) T.length tc) T.length T] [rwI (.slice (some ⟨fg1, 0, none⟩) p.ats.length fc1) p.ats.length p.ats, rwS (.slice (some ⟨fg2, 0, none⟩) p.gr.length fc2) p.gr.length p.gr, rwI (.slice (some ⟨tg1, 0, none⟩) p.ats.length tc1) p.ats.length p.ats, rwS (.slice (some ⟨tg2, 0, none⟩) p.gr.length tc2) p.gr.length p.gr, rwI (.slice (some ⟨hg1, 0, none⟩) p.ats.length hc1) p.ats.length p.ats, rwS (.slice (some ⟨hg2, 0, none⟩) p.gr.length hc2) p.gr.length p.gr] ((pf, Obj.cells #[.slice (some ⟨fg1, 0, none⟩) p.ats.length fc1, .slice (some ⟨fg2, 0, none⟩) p.gr.length fc2, .int .i64 p.tall, .int .i64 la, .int .i64 lb] 27 (0, 0)) :: (pt, Obj.cells #[.slice (some ⟨tg1, 0, none⟩) p.ats.length tc1, .slice (some ⟨tg2, 0, none⟩) p.gr.length tc2, .int .i64 p.tall, .int .i64 la, .int .i64 lb] 27 (0, 0)) :: (ph, Obj.cells #[.slice (some ⟨hg1, 0, none⟩) p.ats.length hc1, .slice (some ⟨hg2, 0, none⟩) p.gr.length hc2, .int .i64 p.tall, .int .i64 la, .int .i64 lb] 27 (0, 0)) :: [(q, Obj.cells #[.slice (some ⟨ha, 0, none⟩) p.ats.length hc, .slice (some ⟨ga, 0, none⟩) p.gr.length gc, .int .i64 p.tall, .int .i64 la, .int .i64 lb] 27 (0, 0))]) W) := Lib.hid H
      clear H hall HK3 e9 e10 e11 hC
      dsimp only
      obtain ⟨b0, b1, b2, b3, b4⟩ := HK4.out.box5 (q := pf) (a := .slice (some ⟨fg1, 0, none⟩) p.ats.length fc1) (b := .slice (some ⟨fg2, 0, none⟩) p.gr.length fc2) (e := .int .i64 p.tall) (f := .int .i64 la) (g := .int .i64 lb) (t := 27) (by simp)
      go_wp2_with fail
      refine (revS_some (base := S) (n := p.gr.length) (L := p.gr) (by have := HLN.out; omega) rfl (HK4.out.q (rwS (.slice (some ⟨fg2, 0, none⟩) p.gr.length fc2) p.gr.length p.gr) (by simp))).mono ?_
      rintro e W2 ⟨rfl, ho, hg⟩
      have HK5 : Hid (Mem w S w.heap.size dc0 [rwI (.slice (some ⟨ha, 0, none⟩) p.ats.length hc) p.ats.length p.ats, rwS (.slice (some ⟨ga, 0, none⟩) p.gr.length gc) p.gr.length p.gr, rwI (.slice (some ⟨ta, 0, none⟩) T.length tc) T.length T] [rwI (.slice (some ⟨fg1, 0, none⟩) p.ats.length fc1) p.ats.length p.ats, rwS (.slice (some ⟨fg2, 0, none⟩) p.gr.length fc2) p.gr.length p.gr.reverse, rwI (.slice (some ⟨tg1, 0, none⟩) p.ats.length tc1) p.ats.length p.ats, rwS (.slice (some ⟨tg2, 0, none⟩) p.gr.length tc2) p.gr.length p.gr, rwI (.slice (some ⟨hg1, 0, none⟩) p.ats.length hc1) p.ats.length p.ats, rwS (.slice (some ⟨hg2, 0, none⟩) p.gr.length hc2) p.gr.length p.gr] ((pf, Obj.cells #[.slice (some ⟨fg1, 0, none⟩) p.ats.length fc1, .slice (some ⟨fg2, 0, none⟩) p.gr.length fc2, .int .i64 p.tall, .int .i64 la, .int .i64 lb] 27 (0, 0)) :: (pt, Obj.cells #[.slice (some ⟨tg1, 0, none⟩) p.ats.length tc1, .slice (some ⟨tg2, 0, none⟩) p.gr.length tc2, .int .i64 p.tall, .int .i64 la, .int .i64 lb] 27 (0, 0)) :: (ph, Obj.cells #[.slice (some ⟨hg1, 0, none⟩) p.ats.length hc1, .slice (some ⟨hg2, 0, none⟩) p.gr.length hc2, .int .i64 p.tall, .int .i64 la, .int .i64 lb] 27 (0, 0)) :: [(q, Obj.cells #[.slice (some ⟨ha, 0, none⟩) p.ats.length hc, .slice (some ⟨ga, 0, none⟩) p.gr.length gc, .int .i64 p.tall, .int .i64 la, .int .i64 lb] 27 (0, 0))]) W2) := Lib.hid (HK4.out.putQ (Q1 := [_]) (r := rwS (.slice (some ⟨fg2, 0, none⟩) p.gr.length fc2) p.gr.length p.gr) (r' := rwS (.slice (some ⟨fg2, 0, none⟩) p.gr.length fc2) p.gr.length p.gr.reverse) hg ho (.inl rfl))
      clear ho hg HK4 b0 b1 b2 b3 b4
      obtain ⟨b0, b1, b2, b3, b4⟩ := HK5.out.box5 (q := q) (a := .slice (some ⟨ha, 0, none⟩) p.ats.length hc) (b := .slice (some ⟨ga, 0, none⟩) p.gr.length gc) (e := .int .i64 p.tall) (f := .int .i64 la) (g := .int .i64 lb) (t := 27) (by simp)
      go_wp2_with fail
      clear b0 b1 b2 b3 b4
      obtain ⟨fv, hfv⟩ : ∃ fv, fv = foldI a2 9000 := ⟨_, rfl⟩
      have HFV : Hid (fv = foldI a2 9000 ∧ 0 ≤ fv ∧ fv < 9000) := Lib.hid (by have := foldI_range (v := a2) (n := 9000) (by omega); rw [hfv]; exact ⟨rfl, this⟩)
      clear hfv
      go_loopw [82] (fun i W => ∃ (k : Nat) (A B C : List Int), k ≤ p.ats.length ∧ i = .int .i64 k ∧ Hid (TurTo (bendP p la lb) fv k A B C) ∧ Hid (Mem w S w.heap.size dc0 [rwI (.slice (some ⟨ha, 0, none⟩) p.ats.length hc) p.ats.length p.ats, rwS (.slice (some ⟨ga, 0, none⟩) p.gr.length gc) p.gr.length p.gr, rwI (.slice (some ⟨ta, 0, none⟩) T.length tc) T.length T] [rwI (.slice (some ⟨fg1, 0, none⟩) p.ats.length fc1) p.ats.length A, rwS (.slice (some ⟨fg2, 0, none⟩) p.gr.length fc2) p.gr.length p.gr.reverse, rwI (.slice (some ⟨tg1, 0, none⟩) p.ats.length tc1) p.ats.length B, rwS (.slice (some ⟨tg2, 0, none⟩) p.gr.length tc2) p.gr.length p.gr, rwI (.slice (some ⟨hg1, 0, none⟩) p.ats.length hc1) p.ats.length C, rwS (.slice (some ⟨hg2, 0, none⟩) p.gr.length hc2) p.gr.length p.gr] ((pf, Obj.cells #[.slice (some ⟨fg1, 0, none⟩) p.ats.length fc1, .slice (some ⟨fg2, 0, none⟩) p.gr.length fc2, .int .i64 p.tall, .int .i64 la, .int .i64 lb] 27 (0, 0)) :: (pt, Obj.cells #[.slice (some ⟨tg1, 0, none⟩) p.ats.length tc1, .slice (some ⟨tg2, 0, none⟩) p.gr.length tc2, .int .i64 p.tall, .int .i64 la, .int .i64 lb] 27 (0, 0)) :: (ph, Obj.cells #[.slice (some ⟨hg1, 0, none⟩) p.ats.length hc1, .slice (some ⟨hg2, 0, none⟩) p.gr.length hc2, .int .i64 p.tall, .int .i64 la, .int .i64 lb] 27 (0, 0)) :: [(q, Obj.cells #[.slice (some ⟨ha, 0, none⟩) p.ats.length hc, .slice (some ⟨ga, 0, none⟩) p.gr.length gc, .int .i64 p.tall, .int .i64 la, .int .i64 lb] 27 (0, 0))]) W)) (fun i _ => p.ats.length - (intOf i).toNat)
      case atStart => exact ⟨0, p.ats, p.ats, p.ats, Nat.zero_le _, rfl, Lib.hid ⟨rfl, rfl, rfl, fun z hz => by omega⟩, HK5⟩
      case round =>
        as_aux_lemma =>
          clear HK5
          obtain ⟨k, A, B, C, hk, rfl, HTU, HK⟩ := hrel
          by_cases hlt : k < p.ats.length
          · have q0 := HK.out.cellI (g := ha) (n := p.ats.length) (cap := hc) (l := p.ats) (.inl (by simp)) hlt
            obtain ⟨ak, hak⟩ : ∃ a, a = p.ats.getD k 0 := ⟨_, rfl⟩
            obtain ⟨am, ham⟩ : ∃ a, a = p.ats.getD N1 0 := ⟨_, rfl⟩
            rw [← hak] at q0
            have HAK : Hid (ak = p.a k ∧ am = p.a (p.n - 1) ∧ 0 ≤ ak ∧ ak ≤ 4449 ∧ 0 ≤ am ∧ am ≤ 4449) := Lib.hid (by
              have h1 := HM.out.a0 k hlt
              have h2 := HM.out.a0 N1 (by have := HNN.out; omega)
              have h3 := HLN.out
              have h4 := HNN.out
              rw [← hak] at h1
              rw [← ham] at h2
              refine ⟨hak, ?_, by omega, by omega, by omega, by omega⟩
              rw [ham, show p.n - 1 = N1 by omega]; rfl)
            have hi1 : (k : Int) < (p.ats.length : Int) := by omega
            have hk40 : k < 40 := by have := HLN.out; omega
            clear hak
            go_upto_region 12 with (fail)
            clear q0
            obtain ⟨K1, hK1⟩ : ∃ K1 : Nat, K1 + k = N1 := ⟨N1 - k, by have := HNN.out; omega⟩
            have ew1 : IntKind.i64.wrap ((N : Int) - 1) = (N1 : Int) := by rw [IntWalk.i64_in _ (by have := HNN.out; omega)]; have := HNN.out; omega
            have ew2 : IntKind.i64.wrap ((N1 : Int) - (k : Int)) = (K1 : Int) := by rw [IntWalk.i64_in _ (by have := HNN.out; omega)]; omega
            have ew3 : IntKind.i64.wrap (am - ak) = am - ak := IntWalk.i64_in _ (by have := HAK.out; omega)
            have hb1 : (N1 : Int) < (p.ats.length : Int) := by have := HNN.out; omega
            have hb2 : (K1 : Int) < (p.ats.length : Int) := by have := HNN.out; omega
            have HK1' : Hid (K1 = p.n - 1 - k ∧ K1 < p.ats.length) := Lib.hid (by have := HNN.out; have := HLN.out; omega)
            have HAM := Lib.hid ham
            clear hK1 ham
            have HCF : Hid (∀ A W, Mem w S w.heap.size dc0 [rwI (.slice (some ⟨ha, 0, none⟩) p.ats.length hc) p.ats.length p.ats, rwS (.slice (some ⟨ga, 0, none⟩) p.gr.length gc) p.gr.length p.gr, rwI (.slice (some ⟨ta, 0, none⟩) T.length tc) T.length T] [rwI (.slice (some ⟨fg1, 0, none⟩) p.ats.length fc1) p.ats.length A, rwS (.slice (some ⟨fg2, 0, none⟩) p.gr.length fc2) p.gr.length p.gr.reverse, rwI (.slice (some ⟨tg1, 0, none⟩) p.ats.length tc1) p.ats.length B, rwS (.slice (some ⟨tg2, 0, none⟩) p.gr.length tc2) p.gr.length p.gr, rwI (.slice (some ⟨hg1, 0, none⟩) p.ats.length hc1) p.ats.length C, rwS (.slice (some ⟨hg2, 0, none⟩) p.gr.length hc2) p.gr.length p.gr] ((pf, Obj.cells #[.slice (some ⟨fg1, 0, none⟩) p.ats.length fc1, .slice (some ⟨fg2, 0, none⟩) p.gr.length fc2, .int .i64 p.tall, .int .i64 la, .int .i64 lb] 27 (0, 0)) :: (pt, Obj.cells #[.slice (some ⟨tg1, 0, none⟩) p.ats.length tc1, .slice (some ⟨tg2, 0, none⟩) p.gr.length tc2, .int .i64 p.tall, .int .i64 la, .int .i64 lb] 27 (0, 0)) :: (ph, Obj.cells #[.slice (some ⟨hg1, 0, none⟩) p.ats.length hc1, .slice (some ⟨hg2, 0, none⟩) p.gr.length hc2, .int .i64 p.tall, .int .i64 la, .int .i64 lb] 27 (0, 0)) :: [(q, Obj.cells #[.slice (some ⟨ha, 0, none⟩) p.ats.length hc, .slice (some ⟨ga, 0, none⟩) p.gr.length gc, .int .i64 p.tall, .int .i64 la, .int .i64 lb] 27 (0, 0))]) W → (fun W => W.cell? ⟨pf, 0, none⟩ = some (.slice (some ⟨fg1, 0, none⟩) p.ats.length fc1) ∧ W.cell? ⟨q, 0, none⟩ = some (.slice (some ⟨ha, 0, none⟩) p.ats.length hc) ∧ W.cell? ⟨ha, N1, none⟩ = some (.int .i64 am)) W) := Lib.hid fun A W h => ⟨(h.box5 (q := pf) (t := 27) List.mem_cons_self).1, (h.box5 (q := q) (a := .slice (some ⟨ha, 0, none⟩) p.ats.length hc) (b := .slice (some ⟨ga, 0, none⟩) p.gr.length gc) (e := .int .i64 p.tall) (f := .int .i64 la) (g := .int .i64 lb) (t := 27) (by simp)).1, by have h2 := h.cellI (g := ha) (n := p.ats.length) (cap := hc) (l := p.ats) (.inl (by simp)) (j := N1) (by have := HNN.out; omega); rw [← HAM.out] at h2; exact h2⟩
            have HKa := Lib.hid HK.out.drew
            have hC := HCF.out _ _ HKa.out
            clear HK
            generalize hW0 : wr.drew = wr2 at HKa hC
            refine Lim.regC' (fun W => W.cell? ⟨pf, 0, none⟩ = some (.slice (some ⟨fg1, 0, none⟩) p.ats.length fc1) ∧ W.cell? ⟨q, 0, none⟩ = some (.slice (some ⟨ha, 0, none⟩) p.ats.length hc) ∧ W.cell? ⟨ha, N1, none⟩ = some (.int .i64 am)) [] #[false, false, false, false, false, false, false, false, false, false, false, false, false, false, false, false] (by kernel_rfl) rfl ?_
            rw [hW0]; clear hW0
            refine Lim.stepR 0 (fun _ => trivial) rfl (by kernel_rfl) (fun _ _ _ _ h => h) hC rfl ?_; apply Exists.intro; refine ⟨?_, ?_⟩
            · rintro w ⟨r0, r1, r2⟩; go_simp; try with_reducible rfl
            simp only [Act.put, List.setIfInBounds_toArray, List.set_cons_succ, List.set_cons_zero]
            refine Lim.stepR 1 (fun _ => trivial) rfl (by kernel_rfl) (fun _ _ _ _ h => h) hC rfl ?_; apply Exists.intro; refine ⟨?_, ?_⟩
            · rintro w ⟨r0, r1, r2⟩; go_simp; try with_reducible rfl
            simp only [Act.put, List.setIfInBounds_toArray, List.set_cons_succ, List.set_cons_zero]
            refine Lim.stepR 2 (fun _ => trivial) rfl (by kernel_rfl) (fun _ _ _ _ h => h) hC rfl ?_; apply Exists.intro; refine ⟨?_, ?_⟩
            · rintro w ⟨r0, r1, r2⟩; go_simp; try with_reducible rfl
            simp only [Act.put, List.setIfInBounds_toArray, List.set_cons_succ, List.set_cons_zero]
            refine Lim.stepR 3 (fun _ => trivial) rfl (by kernel_rfl) (fun _ _ _ _ h => h) hC rfl ?_; apply Exists.intro; refine ⟨?_, ?_⟩
            · rintro w ⟨r0, r1, r2⟩; go_simp; try with_reducible rfl
            simp only [Act.put, List.setIfInBounds_toArray, List.set_cons_succ, List.set_cons_zero]
            refine Lim.stepR 4 (fun _ => trivial) rfl (by kernel_rfl) (fun _ _ _ _ h => h) hC rfl ?_; apply Exists.intro; refine ⟨?_, ?_⟩
            · rintro w ⟨r0, r1, r2⟩; go_simp; try with_reducible rfl
            simp only [Act.put, List.setIfInBounds_toArray, List.set_cons_succ, List.set_cons_zero]
            refine Lim.stepR 5 (fun _ => trivial) rfl (by kernel_rfl) (fun _ _ _ _ h => h) hC rfl ?_; apply Exists.intro; refine ⟨?_, ?_⟩
            · rintro w ⟨r0, r1, r2⟩; go_simp; try with_reducible rfl
            simp only [Act.put, List.setIfInBounds_toArray, List.set_cons_succ, List.set_cons_zero]
            refine Lim.stepR 6 (fun _ => trivial) rfl (by kernel_rfl) (fun _ _ _ _ h => h) hC rfl ?_; apply Exists.intro; refine ⟨?_, ?_⟩
            · rintro w ⟨r0, r1, r2⟩; go_simp; try with_reducible rfl
            simp only [Act.put, List.setIfInBounds_toArray, List.set_cons_succ, List.set_cons_zero]
            refine Lim.stepR 7 (fun _ => trivial) rfl (by kernel_rfl) (fun _ _ _ _ h => h) hC rfl ?_; apply Exists.intro; refine ⟨?_, ?_⟩
            · rintro w ⟨r0, r1, r2⟩; go_simp; try with_reducible rfl
            simp only [Act.put, List.setIfInBounds_toArray, List.set_cons_succ, List.set_cons_zero]
            refine Lim.stepR 8 (fun _ => trivial) rfl (by kernel_rfl) (fun _ _ _ _ h => h) hC rfl ?_; apply Exists.intro; refine ⟨?_, ?_⟩
            · rintro w ⟨r0, r1, r2⟩; go_simp; try with_reducible rfl
            simp only [Act.put, List.setIfInBounds_toArray, List.set_cons_succ, List.set_cons_zero]
            refine Lim.stepR 9 (fun _ => trivial) rfl (by kernel_rfl) (fun _ _ _ _ h => h) hC rfl ?_; apply Exists.intro; refine ⟨?_, ?_⟩
            · rintro w ⟨r0, r1, r2⟩; go_simp; try with_reducible rfl
            simp only [Act.put, List.setIfInBounds_toArray, List.set_cons_succ, List.set_cons_zero]
            refine Lim.stepR 10 (fun _ => trivial) rfl (by kernel_rfl) (fun _ _ _ _ h => h) hC rfl ?_; apply Exists.intro; refine ⟨?_, ?_⟩
            · rintro w ⟨r0, r1, r2⟩; go_simp; try with_reducible rfl
            simp only [Act.put, List.setIfInBounds_toArray, List.set_cons_succ, List.set_cons_zero]
            refine Lim.stepR 11 (fun _ => trivial) rfl (by kernel_rfl) (fun _ _ _ _ h => h) hC rfl ?_; apply Exists.intro; refine ⟨?_, ?_⟩
            · rintro w ⟨r0, r1, r2⟩; go_simp; try with_reducible rfl
            simp only [Act.put, List.setIfInBounds_toArray, List.set_cons_succ, List.set_cons_zero]
            refine Lim.stepR 12 (fun _ => trivial) rfl (by kernel_rfl) (fun _ _ _ _ h => h) hC rfl ?_; apply Exists.intro; refine ⟨?_, ?_⟩
            · rintro w ⟨r0, r1, r2⟩; go_simp; try with_reducible rfl
            simp only [Act.put, List.setIfInBounds_toArray, List.set_cons_succ, List.set_cons_zero]
            refine Lim.stepR 13 (fun _ => trivial) rfl (by kernel_rfl) (fun _ _ _ _ h => h) hC rfl ?_; apply Exists.intro; refine ⟨?_, ?_⟩
            · rintro w ⟨r0, r1, r2⟩; go_simp; try with_reducible rfl
            simp only [Act.put, List.setIfInBounds_toArray, List.set_cons_succ, List.set_cons_zero]
            refine Lim.stepR 14 (fun _ => trivial) rfl (by kernel_rfl) (fun _ _ _ _ h => h) hC rfl ?_; apply Exists.intro; refine ⟨?_, ?_⟩
            · rintro w ⟨r0, r1, r2⟩; go_simp; try with_reducible rfl
            simp only [Act.put, List.setIfInBounds_toArray, List.set_cons_succ, List.set_cons_zero]
            refine Lim.stepE 15 (fun _ => trivial) rfl (by kernel_rfl) rfl (fun K hK => ?_)   -- E store
            have z0 : wr2.cell? ⟨fg1, K1, none⟩ = _ := HKa.out.cellI (g := fg1) (n := p.ats.length) (cap := fc1) (l := A) (.inr (by simp)) (by have h1 := HTU.out.la; have h2 := HK1'.out; have h3 : (bendP p la lb).n = p.ats.length := rfl; omega)
            have z1 : wr2.frozen? ⟨fg1, K1, none⟩ = false := row_frz (HKa.out.q (rwI (.slice (some ⟨fg1, 0, none⟩) p.ats.length fc1) p.ats.length A) (by simp)) rfl _
            go_simp
            have HKb : Hid (Mem w S w.heap.size dc0 [rwI (.slice (some ⟨ha, 0, none⟩) p.ats.length hc) p.ats.length p.ats, rwS (.slice (some ⟨ga, 0, none⟩) p.gr.length gc) p.gr.length p.gr, rwI (.slice (some ⟨ta, 0, none⟩) T.length tc) T.length T] [rwI (.slice (some ⟨fg1, 0, none⟩) p.ats.length fc1) p.ats.length (A.set K1 (am - ak)), rwS (.slice (some ⟨fg2, 0, none⟩) p.gr.length fc2) p.gr.length p.gr.reverse, rwI (.slice (some ⟨tg1, 0, none⟩) p.ats.length tc1) p.ats.length B, rwS (.slice (some ⟨tg2, 0, none⟩) p.gr.length tc2) p.gr.length p.gr, rwI (.slice (some ⟨hg1, 0, none⟩) p.ats.length hc1) p.ats.length C, rwS (.slice (some ⟨hg2, 0, none⟩) p.gr.length hc2) p.gr.length p.gr] ((pf, Obj.cells #[.slice (some ⟨fg1, 0, none⟩) p.ats.length fc1, .slice (some ⟨fg2, 0, none⟩) p.gr.length fc2, .int .i64 p.tall, .int .i64 la, .int .i64 lb] 27 (0, 0)) :: (pt, Obj.cells #[.slice (some ⟨tg1, 0, none⟩) p.ats.length tc1, .slice (some ⟨tg2, 0, none⟩) p.gr.length tc2, .int .i64 p.tall, .int .i64 la, .int .i64 lb] 27 (0, 0)) :: (ph, Obj.cells #[.slice (some ⟨hg1, 0, none⟩) p.ats.length hc1, .slice (some ⟨hg2, 0, none⟩) p.gr.length hc2, .int .i64 p.tall, .int .i64 la, .int .i64 lb] 27 (0, 0)) :: [(q, Obj.cells #[.slice (some ⟨ha, 0, none⟩) p.ats.length hc, .slice (some ⟨ga, 0, none⟩) p.gr.length gc, .int .i64 p.tall, .int .i64 la, .int .i64 lb] 27 (0, 0))]) (wr2.setCell ⟨fg1, K1, none⟩ (.int .i64 (am - ak)))) := Lib.hid (Mem.setI (Q1 := []) HKa.out K1 (am - ak))
            have hC2 := HCF.out _ _ HKb.out
            refine hK _ _ hC2 ?_
            clear hK z0 z1 HKa hC
            generalize wr2.setCell ⟨fg1, K1, none⟩ (.int .i64 (am - ak)) = wb at HKb hC2 ⊢
            simp only [Act.put, List.setIfInBounds_toArray, List.set_cons_succ, List.set_cons_zero]
            refine Lim.stepD (by kernel_rfl) ?_
            clear hC2 HCF ew1 ew2 ew3 hb1 hb2
            go_upto_region 13 with (fail)
            have ew4 : IntKind.i64.wrap (ak + fv) = ak + fv := IntWalk.i64_in _ (by have := HAK.out; have := HFV.out; omega)
            have HCF : Hid (∀ B W, Mem w S w.heap.size dc0 [rwI (.slice (some ⟨ha, 0, none⟩) p.ats.length hc) p.ats.length p.ats, rwS (.slice (some ⟨ga, 0, none⟩) p.gr.length gc) p.gr.length p.gr, rwI (.slice (some ⟨ta, 0, none⟩) T.length tc) T.length T] [rwI (.slice (some ⟨fg1, 0, none⟩) p.ats.length fc1) p.ats.length (A.set K1 (am - ak)), rwS (.slice (some ⟨fg2, 0, none⟩) p.gr.length fc2) p.gr.length p.gr.reverse, rwI (.slice (some ⟨tg1, 0, none⟩) p.ats.length tc1) p.ats.length B, rwS (.slice (some ⟨tg2, 0, none⟩) p.gr.length tc2) p.gr.length p.gr, rwI (.slice (some ⟨hg1, 0, none⟩) p.ats.length hc1) p.ats.length C, rwS (.slice (some ⟨hg2, 0, none⟩) p.gr.length hc2) p.gr.length p.gr] ((pf, Obj.cells #[.slice (some ⟨fg1, 0, none⟩) p.ats.length fc1, .slice (some ⟨fg2, 0, none⟩) p.gr.length fc2, .int .i64 p.tall, .int .i64 la, .int .i64 lb] 27 (0, 0)) :: (pt, Obj.cells #[.slice (some ⟨tg1, 0, none⟩) p.ats.length tc1, .slice (some ⟨tg2, 0, none⟩) p.gr.length tc2, .int .i64 p.tall, .int .i64 la, .int .i64 lb] 27 (0, 0)) :: (ph, Obj.cells #[.slice (some ⟨hg1, 0, none⟩) p.ats.length hc1, .slice (some ⟨hg2, 0, none⟩) p.gr.length hc2, .int .i64 p.tall, .int .i64 la, .int .i64 lb] 27 (0, 0)) :: [(q, Obj.cells #[.slice (some ⟨ha, 0, none⟩) p.ats.length hc, .slice (some ⟨ga, 0, none⟩) p.gr.length gc, .int .i64 p.tall, .int .i64 la, .int .i64 lb] 27 (0, 0))]) W → (fun W => W.cell? ⟨pt, 0, none⟩ = some (.slice (some ⟨tg1, 0, none⟩) p.ats.length tc1)) W) := Lib.hid fun B W h => (h.box5 (q := pt) (t := 27) (List.mem_cons_of_mem _ List.mem_cons_self)).1
            have HKc := Lib.hid HKb.out.drew
            have hC := HCF.out _ _ HKc.out
            clear HKb
            generalize hW0 : wb.drew = wr2 at HKc hC
            refine Lim.regC' (fun W => W.cell? ⟨pt, 0, none⟩ = some (.slice (some ⟨tg1, 0, none⟩) p.ats.length tc1)) [] #[false, false, false, false, false, false, false, false, false] (by kernel_rfl) rfl ?_
            rw [hW0]; clear hW0
            refine Lim.stepR 0 (fun _ => trivial) rfl (by kernel_rfl) (fun _ _ _ _ h => h) hC rfl ?_; apply Exists.intro; refine ⟨?_, ?_⟩
            · rintro w r0; go_simp; try with_reducible rfl
            simp only [Act.put, List.setIfInBounds_toArray, List.set_cons_succ, List.set_cons_zero]
            refine Lim.stepR 1 (fun _ => trivial) rfl (by kernel_rfl) (fun _ _ _ _ h => h) hC rfl ?_; apply Exists.intro; refine ⟨?_, ?_⟩
            · rintro w r0; go_simp; try with_reducible rfl
            simp only [Act.put, List.setIfInBounds_toArray, List.set_cons_succ, List.set_cons_zero]
            refine Lim.stepR 2 (fun _ => trivial) rfl (by kernel_rfl) (fun _ _ _ _ h => h) hC rfl ?_; apply Exists.intro; refine ⟨?_, ?_⟩
            · rintro w r0; go_simp; try with_reducible rfl
            simp only [Act.put, List.setIfInBounds_toArray, List.set_cons_succ, List.set_cons_zero]
            refine Lim.stepR 3 (fun _ => trivial) rfl (by kernel_rfl) (fun _ _ _ _ h => h) hC rfl ?_; apply Exists.intro; refine ⟨?_, ?_⟩
            · rintro w r0; go_simp; try with_reducible rfl
            simp only [Act.put, List.setIfInBounds_toArray, List.set_cons_succ, List.set_cons_zero]
            refine Lim.stepR 4 (fun _ => trivial) rfl (by kernel_rfl) (fun _ _ _ _ h => h) hC rfl ?_; apply Exists.intro; refine ⟨?_, ?_⟩
            · rintro w r0; go_simp; try with_reducible rfl
            simp only [Act.put, List.setIfInBounds_toArray, List.set_cons_succ, List.set_cons_zero]
            refine Lim.stepE 5 (fun _ => trivial) rfl (by kernel_rfl) rfl (fun K hK => ?_)   -- E call
            go_simp
            refine ⟨rfl, (callsIn_wide.2 (fold_is (v := a2) (n := 9000) _ (by omega))).mono ?_⟩
            rintro e W7 ⟨rfl, rfl⟩
            rw [← HFV.out.1]
            refine hK _ _ hC ?_
            clear hK
            simp only [Act.put, List.setIfInBounds_toArray, List.set_cons_succ, List.set_cons_zero]
            refine Lim.stepR 6 (fun _ => trivial) rfl (by kernel_rfl) (fun _ _ _ _ h => h) hC rfl ?_; apply Exists.intro; refine ⟨?_, ?_⟩
            · rintro w r0; go_simp; try with_reducible rfl
            simp only [Act.put, List.setIfInBounds_toArray, List.set_cons_succ, List.set_cons_zero]
            refine Lim.stepR 7 (fun _ => trivial) rfl (by kernel_rfl) (fun _ _ _ _ h => h) hC rfl ?_; apply Exists.intro; refine ⟨?_, ?_⟩
            · rintro w r0; go_simp; try with_reducible rfl
            simp only [Act.put, List.setIfInBounds_toArray, List.set_cons_succ, List.set_cons_zero]
            refine Lim.stepE 8 (fun _ => trivial) rfl (by kernel_rfl) rfl (fun K hK => ?_)   -- E store
            have z0 : W7.cell? ⟨tg1, k, none⟩ = _ := HKc.out.cellI (g := tg1) (n := p.ats.length) (cap := tc1) (l := B) (.inr (by simp)) (by have h1 := HTU.out.lb; have h3 : (bendP p la lb).n = p.ats.length := rfl; omega)
            have z1 : W7.frozen? ⟨tg1, k, none⟩ = false := row_frz (HKc.out.q (rwI (.slice (some ⟨tg1, 0, none⟩) p.ats.length tc1) p.ats.length B) (by simp)) rfl _
            go_simp
            have HKd : Hid (Mem w S w.heap.size dc0 [rwI (.slice (some ⟨ha, 0, none⟩) p.ats.length hc) p.ats.length p.ats, rwS (.slice (some ⟨ga, 0, none⟩) p.gr.length gc) p.gr.length p.gr, rwI (.slice (some ⟨ta, 0, none⟩) T.length tc) T.length T] [rwI (.slice (some ⟨fg1, 0, none⟩) p.ats.length fc1) p.ats.length (A.set K1 (am - ak)), rwS (.slice (some ⟨fg2, 0, none⟩) p.gr.length fc2) p.gr.length p.gr.reverse, rwI (.slice (some ⟨tg1, 0, none⟩) p.ats.length tc1) p.ats.length (B.set k (ak + fv)), rwS (.slice (some ⟨tg2, 0, none⟩) p.gr.length tc2) p.gr.length p.gr, rwI (.slice (some ⟨hg1, 0, none⟩) p.ats.length hc1) p.ats.length C, rwS (.slice (some ⟨hg2, 0, none⟩) p.gr.length hc2) p.gr.length p.gr] ((pf, Obj.cells #[.slice (some ⟨fg1, 0, none⟩) p.ats.length fc1, .slice (some ⟨fg2, 0, none⟩) p.gr.length fc2, .int .i64 p.tall, .int .i64 la, .int .i64 lb] 27 (0, 0)) :: (pt, Obj.cells #[.slice (some ⟨tg1, 0, none⟩) p.ats.length tc1, .slice (some ⟨tg2, 0, none⟩) p.gr.length tc2, .int .i64 p.tall, .int .i64 la, .int .i64 lb] 27 (0, 0)) :: (ph, Obj.cells #[.slice (some ⟨hg1, 0, none⟩) p.ats.length hc1, .slice (some ⟨hg2, 0, none⟩) p.gr.length hc2, .int .i64 p.tall, .int .i64 la, .int .i64 lb] 27 (0, 0)) :: [(q, Obj.cells #[.slice (some ⟨ha, 0, none⟩) p.ats.length hc, .slice (some ⟨ga, 0, none⟩) p.gr.length gc, .int .i64 p.tall, .int .i64 la, .int .i64 lb] 27 (0, 0))]) (W7.setCell ⟨tg1, k, none⟩ (.int .i64 (ak + fv)))) := Lib.hid (Mem.setI (Q1 := [_, _]) HKc.out k (ak + fv))
            have hC2 := HCF.out _ _ HKd.out
            refine hK _ _ hC2 ?_
            clear hK z0 z1 HKc hC
            generalize W7.setCell ⟨tg1, k, none⟩ (.int .i64 (ak + fv)) = wd at HKd hC2 ⊢
            simp only [Act.put, List.setIfInBounds_toArray, List.set_cons_succ, List.set_cons_zero]
            refine Lim.stepD (by kernel_rfl) ?_
            clear hC2 HCF ew4
            have ew5 : IntKind.i64.wrap (2 * ak) = 2 * ak := IntWalk.i64_in _ (by have := HAK.out; omega)
            obtain ⟨b0, b1, b2, b3, b4⟩ := HKd.out.box5 (q := ph) (a := .slice (some ⟨hg1, 0, none⟩) p.ats.length hc1) (b := .slice (some ⟨hg2, 0, none⟩) p.gr.length hc2) (e := .int .i64 p.tall) (f := .int .i64 la) (g := .int .i64 lb) (t := 27) (by simp)
            have z0 : wd.cell? ⟨hg1, k, none⟩ = _ := HKd.out.cellI (g := hg1) (n := p.ats.length) (cap := hc1) (l := C) (.inr (by simp)) (by have h1 := HTU.out.lc; have h3 : (bendP p la lb).n = p.ats.length := rfl; omega)
            have z1 : wd.frozen? ⟨hg1, k, none⟩ = false := row_frz (HKd.out.q (rwI (.slice (some ⟨hg1, 0, none⟩) p.ats.length hc1) p.ats.length C) (by simp)) rfl _
            go_upto_region 15 with (fail)
            have HKe : Hid (Mem w S w.heap.size dc0 [rwI (.slice (some ⟨ha, 0, none⟩) p.ats.length hc) p.ats.length p.ats, rwS (.slice (some ⟨ga, 0, none⟩) p.gr.length gc) p.gr.length p.gr, rwI (.slice (some ⟨ta, 0, none⟩) T.length tc) T.length T] [rwI (.slice (some ⟨fg1, 0, none⟩) p.ats.length fc1) p.ats.length (A.set K1 (am - ak)), rwS (.slice (some ⟨fg2, 0, none⟩) p.gr.length fc2) p.gr.length p.gr.reverse, rwI (.slice (some ⟨tg1, 0, none⟩) p.ats.length tc1) p.ats.length (B.set k (ak + fv)), rwS (.slice (some ⟨tg2, 0, none⟩) p.gr.length tc2) p.gr.length p.gr, rwI (.slice (some ⟨hg1, 0, none⟩) p.ats.length hc1) p.ats.length (C.set k (2 * ak)), rwS (.slice (some ⟨hg2, 0, none⟩) p.gr.length hc2) p.gr.length p.gr] ((pf, Obj.cells #[.slice (some ⟨fg1, 0, none⟩) p.ats.length fc1, .slice (some ⟨fg2, 0, none⟩) p.gr.length fc2, .int .i64 p.tall, .int .i64 la, .int .i64 lb] 27 (0, 0)) :: (pt, Obj.cells #[.slice (some ⟨tg1, 0, none⟩) p.ats.length tc1, .slice (some ⟨tg2, 0, none⟩) p.gr.length tc2, .int .i64 p.tall, .int .i64 la, .int .i64 lb] 27 (0, 0)) :: (ph, Obj.cells #[.slice (some ⟨hg1, 0, none⟩) p.ats.length hc1, .slice (some ⟨hg2, 0, none⟩) p.gr.length hc2, .int .i64 p.tall, .int .i64 la, .int .i64 lb] 27 (0, 0)) :: [(q, Obj.cells #[.slice (some ⟨ha, 0, none⟩) p.ats.length hc, .slice (some ⟨ga, 0, none⟩) p.gr.length gc, .int .i64 p.tall, .int .i64 la, .int .i64 lb] 27 (0, 0))]) (wd.setCell ⟨hg1, k, none⟩ (.int .i64 (2 * ak)))) := Lib.hid (Mem.setI (Q1 := [_, _, _, _]) HKd.out k (2 * ak))
            clear z0 z1 b0 b1 b2 b3 b4 HKd ew5
            generalize wd.setCell ⟨hg1, k, none⟩ (.int .i64 (2 * ak)) = we at HKe ⊢
            have HTN := Lib.hid (HTU.out.set (show k < (bendP p la lb).n from hlt) (x := am - ak) (y := ak + fv) (z := 2 * ak) (by rw [HAK.out.2.1, HAK.out.1]; rfl) (by rw [HAK.out.1]; rfl) (by rw [HAK.out.1]; rfl))
            have hKe : (bendP p la lb).n - 1 - k = K1 := HK1'.out.1.symm
            rw [hKe] at HTN
            clear hKe
            go_wp2
            go_roundw
            case rel => exact ⟨k + 1, _, _, _, by omega, by go_num, HTN, HKe⟩
            case measure => simp [intOf]; omega
          · have HTN : Hid (TurTo (bendP p la lb) fv (bendP p la lb).n A B C) := Lib.hid (by have h := HTU.out; rw [show k = (bendP p la lb).n from (by show k = p.ats.length; omega)] at h; exact h)
            have hke : ¬ ((k : Int) < (p.ats.length : Int)) := by omega
            clear hlt hk HTU
            obtain ⟨b0, b1, b2, b3, b4⟩ := HK.out.box5 (q := q) (a := .slice (some ⟨ha, 0, none⟩) p.ats.length hc) (b := .slice (some ⟨ga, 0, none⟩) p.gr.length gc) (e := .int .i64 p.tall) (f := .int .i64 la) (g := .int .i64 lb) (t := 27) (by simp)
            have el : la.tdiv 4 = l4 := by rw [HBD.out.1, Int.mul_tdiv_cancel_left _ (by decide)]
            have eh : lb.tdiv 4 = h4 := by rw [HBD.out.2.1, Int.mul_tdiv_cancel_left _ (by decide)]
            have ew1 : IntKind.i64.wrap l4 = l4 := IntWalk.i64_in _ (by have := HBD.out; omega)
            have ew2 : IntKind.i64.wrap h4 = h4 := IntWalk.i64_in _ (by have := HBD.out; omega)
            go_wp2_with fail
            refine (span_any l4 h4 _).mono ?_
            rintro e W2 ⟨rfl, hb⟩
            have HKa := Lib.hid (HK.out.grow hb)
            clear hb HK b0 b1 b2 b3 b4 el eh ew1 ew2 hke
            obtain ⟨b0, b1, b2, b3, b4⟩ := HKa.out.box5 (q := ph) (a := .slice (some ⟨hg1, 0, none⟩) p.ats.length hc1) (b := .slice (some ⟨hg2, 0, none⟩) p.gr.length hc2) (e := .int .i64 p.tall) (f := .int .i64 la) (g := .int .i64 lb) (t := 27) (by simp)
            obtain ⟨y0, y1, y2, y3, y4⟩ := HKa.out.frz5 (q := ph) (t := 27) (List.mem_cons_of_mem _ (List.mem_cons_of_mem _ List.mem_cons_self))
            go_upto_region 17 with (fail)
            have HKb : Hid (Mem w S w.heap.size dc0 [rwI (.slice (some ⟨ha, 0, none⟩) p.ats.length hc) p.ats.length p.ats, rwS (.slice (some ⟨ga, 0, none⟩) p.gr.length gc) p.gr.length p.gr, rwI (.slice (some ⟨ta, 0, none⟩) T.length tc) T.length T] [rwI (.slice (some ⟨fg1, 0, none⟩) p.ats.length fc1) p.ats.length A, rwS (.slice (some ⟨fg2, 0, none⟩) p.gr.length fc2) p.gr.length p.gr.reverse, rwI (.slice (some ⟨tg1, 0, none⟩) p.ats.length tc1) p.ats.length B, rwS (.slice (some ⟨tg2, 0, none⟩) p.gr.length tc2) p.gr.length p.gr, rwI (.slice (some ⟨hg1, 0, none⟩) p.ats.length hc1) p.ats.length C, rwS (.slice (some ⟨hg2, 0, none⟩) p.gr.length hc2) p.gr.length p.gr] ((pf, Obj.cells #[.slice (some ⟨fg1, 0, none⟩) p.ats.length fc1, .slice (some ⟨fg2, 0, none⟩) p.gr.length fc2, .int .i64 p.tall, .int .i64 la, .int .i64 lb] 27 (0, 0)) :: (pt, Obj.cells #[.slice (some ⟨tg1, 0, none⟩) p.ats.length tc1, .slice (some ⟨tg2, 0, none⟩) p.gr.length tc2, .int .i64 p.tall, .int .i64 la, .int .i64 lb] 27 (0, 0)) :: (ph, Obj.cells #[.slice (some ⟨hg1, 0, none⟩) p.ats.length hc1, .slice (some ⟨hg2, 0, none⟩) p.gr.length hc2, .int .i64 p.tall, .int .i64 l4, .int .i64 h4] 27 (0, 0)) :: [(q, Obj.cells #[.slice (some ⟨ha, 0, none⟩) p.ats.length hc, .slice (some ⟨ga, 0, none⟩) p.gr.length gc, .int .i64 p.tall, .int .i64 la, .int .i64 lb] 27 (0, 0))]) ((W2.setCell ⟨ph, 3, none⟩ (.int .i64 l4)).setCell ⟨ph, 4, none⟩ (.int .i64 h4))) := Lib.hid ((HKa.out.putX (X1 := [_, _]) 3 (.int .i64 l4)).putX (X1 := [_, _]) 4 (.int .i64 h4))
            clear HKa b0 b1 b2 b3 b4 y0 y1 y2 y3 y4
            generalize (W2.setCell ⟨ph, 3, none⟩ (.int .i64 l4)).setCell ⟨ph, 4, none⟩ (.int .i64 h4) = W3 at HKb ⊢
            obtain ⟨b0, b1, b2, b3, b4⟩ := HKb.out.box5 (q := q) (a := .slice (some ⟨ha, 0, none⟩) p.ats.length hc) (b := .slice (some ⟨ga, 0, none⟩) p.gr.length gc) (e := .int .i64 p.tall) (f := .int .i64 la) (g := .int .i64 lb) (t := 27) (by simp)
            go_wp2_with fail
            refine (Sees_any (p := bendP p la lb) (B := W3.heap.size) (Nat.le_refl _) (HKb.out.rsI (v := .slice (some ⟨ha, 0, none⟩) p.ats.length hc) (n := p.ats.length) (l := p.ats) (.inl (by simp)) rfl) (HKb.out.rsS (v := .slice (some ⟨ga, 0, none⟩) p.gr.length gc) (n := p.gr.length) (l := p.gr) (.inl (by simp)) rfl)).mono ?_
            rintro e W4 ⟨rfl, hb⟩
            have HKc := Lib.hid (HKb.out.grow hb)
            rw [sees_ok HOK.out HXY.out.1 HXY.out.2 HNE.out]
            obtain ⟨cn, hcn⟩ : ∃ cn, cn = (bendP p la lb).sees true false x y := ⟨_, rfl⟩
            obtain ⟨sr, hsr⟩ : ∃ sr, sr = (bendP p la lb).sure x y := ⟨_, rfl⟩
            rw [← hcn, ← hsr]
            have HCS := Lib.hid (And.intro hcn hsr)
            clear hcn hsr hb HKb b0 b1 b2 b3 b4
            obtain ⟨b0, b1, b2, b3, b4⟩ := HKc.out.box5 (q := q) (a := .slice (some ⟨ha, 0, none⟩) p.ats.length hc) (b := .slice (some ⟨ga, 0, none⟩) p.gr.length gc) (e := .int .i64 p.tall) (f := .int .i64 la) (g := .int .i64 lb) (t := 27) (by simp)
            go_wp2_with fail
            refine (Fewest_any (p := bendP p la lb) (B := W4.heap.size) (Nat.le_refl _) (HKc.out.rsI (v := .slice (some ⟨ha, 0, none⟩) p.ats.length hc) (n := p.ats.length) (l := p.ats) (.inl (by simp)) rfl) (HKc.out.rsS (v := .slice (some ⟨ga, 0, none⟩) p.gr.length gc) (n := p.gr.length) (l := p.gr) (.inl (by simp)) rfl)).mono ?_
            rintro e W5 ⟨hb, h⟩
            obtain ⟨lv, L, rfl, ho, hL, hl45⟩ : ∃ v L, e = .returned (.tuple #[v, .int .i64 0]) ∧ W5.ownsRow W4.heap.size 3 1 v L.length (ints (L.map Int.ofNat)) ∧ IsBest (bendP p la lb).n (bendP p la lb).sure (-1) ((bendP p la lb).n - 1) 0 L ∧ L.length ≤ 45 := by
              rcases h with ⟨h, -⟩ | ⟨-, h⟩
              · exact absurd HOK.out.err h
              · exact h
            have HKd := Lib.hid (HKc.out.addR hb (r := rwI lv L.length (L.map Int.ofNat)) ho)
            have HL := Lib.hid (And.intro hL hl45)
            obtain ⟨lga, lgc, rfl⟩ : ∃ a cap, lv = .slice a L.length cap := row_form (r := rwI lv L.length (L.map Int.ofNat)) ho
            clear h hb ho hL hl45 HKc b0 b1 b2 b3 b4
            obtain ⟨b0, b1, b2, b3, b4⟩ := HKd.out.box5 (q := pf) (a := .slice (some ⟨fg1, 0, none⟩) p.ats.length fc1) (b := .slice (some ⟨fg2, 0, none⟩) p.gr.length fc2) (e := .int .i64 p.tall) (f := .int .i64 la) (g := .int .i64 lb) (t := 27) (by simp)
            obtain ⟨c0, c1, c2, c3, c4⟩ := HKd.out.box5 (q := pt) (a := .slice (some ⟨tg1, 0, none⟩) p.ats.length tc1) (b := .slice (some ⟨tg2, 0, none⟩) p.gr.length tc2) (e := .int .i64 p.tall) (f := .int .i64 la) (g := .int .i64 lb) (t := 27) (by simp)
            obtain ⟨z0, z1, z2, z3, z4⟩ := HKd.out.box5 (q := ph) (a := .slice (some ⟨hg1, 0, none⟩) p.ats.length hc1) (b := .slice (some ⟨hg2, 0, none⟩) p.gr.length hc2) (e := .int .i64 p.tall) (f := .int .i64 l4) (g := .int .i64 h4) (t := 27) (by simp)
            go_wp2_with (refine wpList_build3P rfl _ _ _ rfl rfl rfl rfl ?_)
            clear b0 b1 b2 b3 b4 c0 c1 c2 c3 c4 z0 z1 z2 z3 z4
            have HKe := Lib.hid (HKd.out.lay (.cells #[.slice (some ⟨fg1, 0, none⟩) p.ats.length fc1, .slice (some ⟨fg2, 0, none⟩) p.gr.length fc2, .int .i64 p.tall, .int .i64 la, .int .i64 lb, .slice (some ⟨tg1, 0, none⟩) p.ats.length tc1, .slice (some ⟨tg2, 0, none⟩) p.gr.length tc2, .int .i64 p.tall, .int .i64 la, .int .i64 lb, .slice (some ⟨hg1, 0, none⟩) p.ats.length hc1, .slice (some ⟨hg2, 0, none⟩) p.gr.length hc2, .int .i64 p.tall, .int .i64 l4, .int .i64 h4] 27))
            obtain ⟨qz, hqe⟩ : ∃ q, q = W5.heap.size := ⟨_, rfl⟩
            simp only [← hqe] at HKe ⊢
            generalize W5.alloc (.cells #[.slice (some ⟨fg1, 0, none⟩) p.ats.length fc1, .slice (some ⟨fg2, 0, none⟩) p.gr.length fc2, .int .i64 p.tall, .int .i64 la, .int .i64 lb, .slice (some ⟨tg1, 0, none⟩) p.ats.length tc1, .slice (some ⟨tg2, 0, none⟩) p.gr.length tc2, .int .i64 p.tall, .int .i64 la, .int .i64 lb, .slice (some ⟨hg1, 0, none⟩) p.ats.length hc1, .slice (some ⟨hg2, 0, none⟩) p.gr.length hc2, .int .i64 p.tall, .int .i64 l4, .int .i64 h4] 27) = W6 at HKe ⊢
            clear HKd hqe
            go_loopw [145] (fun i W => ∃ k : Nat, k ≤ 3 ∧ i = .int .i64 k ∧ Hid (Mem w S w.heap.size dc0 (rwI (.slice lga L.length lgc) L.length (L.map Int.ofNat) :: [rwI (.slice (some ⟨ha, 0, none⟩) p.ats.length hc) p.ats.length p.ats, rwS (.slice (some ⟨ga, 0, none⟩) p.gr.length gc) p.gr.length p.gr, rwI (.slice (some ⟨ta, 0, none⟩) T.length tc) T.length T]) [rwI (.slice (some ⟨fg1, 0, none⟩) p.ats.length fc1) p.ats.length A, rwS (.slice (some ⟨fg2, 0, none⟩) p.gr.length fc2) p.gr.length p.gr.reverse, rwI (.slice (some ⟨tg1, 0, none⟩) p.ats.length tc1) p.ats.length B, rwS (.slice (some ⟨tg2, 0, none⟩) p.gr.length tc2) p.gr.length p.gr, rwI (.slice (some ⟨hg1, 0, none⟩) p.ats.length hc1) p.ats.length C, rwS (.slice (some ⟨hg2, 0, none⟩) p.gr.length hc2) p.gr.length p.gr] ((qz, Obj.cells #[.slice (some ⟨fg1, 0, none⟩) p.ats.length fc1, .slice (some ⟨fg2, 0, none⟩) p.gr.length fc2, .int .i64 p.tall, .int .i64 la, .int .i64 lb, .slice (some ⟨tg1, 0, none⟩) p.ats.length tc1, .slice (some ⟨tg2, 0, none⟩) p.gr.length tc2, .int .i64 p.tall, .int .i64 la, .int .i64 lb, .slice (some ⟨hg1, 0, none⟩) p.ats.length hc1, .slice (some ⟨hg2, 0, none⟩) p.gr.length hc2, .int .i64 p.tall, .int .i64 l4, .int .i64 h4] 27 (0, 0)) :: ((pf, Obj.cells #[.slice (some ⟨fg1, 0, none⟩) p.ats.length fc1, .slice (some ⟨fg2, 0, none⟩) p.gr.length fc2, .int .i64 p.tall, .int .i64 la, .int .i64 lb] 27 (0, 0)) :: (pt, Obj.cells #[.slice (some ⟨tg1, 0, none⟩) p.ats.length tc1, .slice (some ⟨tg2, 0, none⟩) p.gr.length tc2, .int .i64 p.tall, .int .i64 la, .int .i64 lb] 27 (0, 0)) :: (ph, Obj.cells #[.slice (some ⟨hg1, 0, none⟩) p.ats.length hc1, .slice (some ⟨hg2, 0, none⟩) p.gr.length hc2, .int .i64 p.tall, .int .i64 l4, .int .i64 h4] 27 (0, 0)) :: [(q, Obj.cells #[.slice (some ⟨ha, 0, none⟩) p.ats.length hc, .slice (some ⟨ga, 0, none⟩) p.gr.length gc, .int .i64 p.tall, .int .i64 la, .int .i64 lb] 27 (0, 0))])) W)) (fun i _ => 3 - (intOf i).toNat)
            case atStart => exact ⟨0, by omega, rfl, HKe⟩
            case round =>
              as_aux_lemma =>
                clear HKe
                obtain ⟨k, hk, rfl, HK⟩ := hrel
                by_cases hlt : k < 3
                · obtain ⟨px, xa, xc, xb, xd, uu, vv, hcl, hma, hmg, hlk, hu0, hu1⟩ : ∃ (px : Pf) (xa xc xb xd uu vv : Nat), (wr.cell? ⟨qz, k * 5, none⟩ = some (.slice (some ⟨xa, 0, none⟩) p.ats.length xc) ∧ wr.cell? ⟨qz, k * 5 + 1, none⟩ = some (.slice (some ⟨xb, 0, none⟩) p.gr.length xd) ∧ wr.cell? ⟨qz, k * 5 + 2, none⟩ = some (.int .i64 px.tall) ∧ wr.cell? ⟨qz, k * 5 + 3, none⟩ = some (.int .i64 px.lo) ∧ wr.cell? ⟨qz, k * 5 + 4, none⟩ = some (.int .i64 px.hi)) ∧ rwI (.slice (some ⟨xa, 0, none⟩) p.ats.length xc) p.ats.length px.ats ∈ [rwI (.slice (some ⟨fg1, 0, none⟩) p.ats.length fc1) p.ats.length A, rwS (.slice (some ⟨fg2, 0, none⟩) p.gr.length fc2) p.gr.length p.gr.reverse, rwI (.slice (some ⟨tg1, 0, none⟩) p.ats.length tc1) p.ats.length B, rwS (.slice (some ⟨tg2, 0, none⟩) p.gr.length tc2) p.gr.length p.gr, rwI (.slice (some ⟨hg1, 0, none⟩) p.ats.length hc1) p.ats.length C, rwS (.slice (some ⟨hg2, 0, none⟩) p.gr.length hc2) p.gr.length p.gr] ∧ rwS (.slice (some ⟨xb, 0, none⟩) p.gr.length xd) p.gr.length px.gr ∈ [rwI (.slice (some ⟨fg1, 0, none⟩) p.ats.length fc1) p.ats.length A, rwS (.slice (some ⟨fg2, 0, none⟩) p.gr.length fc2) p.gr.length p.gr.reverse, rwI (.slice (some ⟨tg1, 0, none⟩) p.ats.length tc1) p.ats.length B, rwS (.slice (some ⟨tg2, 0, none⟩) p.gr.length tc2) p.gr.length p.gr, rwI (.slice (some ⟨hg1, 0, none⟩) p.ats.length hc1) p.ats.length C, rwS (.slice (some ⟨hg2, 0, none⟩) p.gr.length hc2) p.gr.length p.gr] ∧ LikeT (bendP p la lb) px k x y uu vv ∧ (k = 0 → uu + x = N1 ∧ vv + y = N1) ∧ (k ≠ 0 → uu = x ∧ vv = y) := by
                    have h := (HK.out.x (qz, Obj.cells #[.slice (some ⟨fg1, 0, none⟩) p.ats.length fc1, .slice (some ⟨fg2, 0, none⟩) p.gr.length fc2, .int .i64 p.tall, .int .i64 la, .int .i64 lb, .slice (some ⟨tg1, 0, none⟩) p.ats.length tc1, .slice (some ⟨tg2, 0, none⟩) p.gr.length tc2, .int .i64 p.tall, .int .i64 la, .int .i64 lb, .slice (some ⟨hg1, 0, none⟩) p.ats.length hc1, .slice (some ⟨hg2, 0, none⟩) p.gr.length hc2, .int .i64 p.tall, .int .i64 l4, .int .i64 h4] 27 (0, 0)) List.mem_cons_self).2
                    have hnn : (bendP p la lb).n = p.ats.length := rfl
                    have hN := HNN.out
                    have hxy := HXY.out
                    have hpn : p.n = p.ats.length := rfl
                    have hc : k = 0 ∨ k = 1 ∨ k = 2 := by omega
                    rcases hc with rfl | rfl | rfl
                    · exact ⟨backP (bendP p la lb) A, fg1, fc1, fg2, fc2, (bendP p la lb).n - 1 - x, (bendP p la lb).n - 1 - y, ⟨cell_of h rfl, cell_of h rfl, cell_of h rfl, cell_of h rfl, cell_of h rfl⟩, by show rwI _ _ A ∈ _; simp, by show rwS _ _ p.gr.reverse ∈ _; simp, like_back HOK.out (HTN.out.back HOK.out) hxy.1 hxy.2 HNE.out, fun _ => by omega, fun h => absurd rfl h⟩
                    · exact ⟨farP (bendP p la lb) B, tg1, tc1, tg2, tc2, x, y, ⟨cell_of h rfl, cell_of h rfl, cell_of h rfl, cell_of h rfl, cell_of h rfl⟩, by show rwI _ _ B ∈ _; simp, by show rwS _ _ p.gr ∈ _; simp, like_far HOK.out HTN.out.far HFV.out.2.1 (fun c hc => by have h1 := HM.out.a0 c hc; have h2 := HFV.out; have h3 := HLN.out; show p.ats.getD c 0 + fv ≤ 20000; have hc' : c < p.ats.length := hc; omega) hxy.1 hxy.2 HNE.out, fun h => by omega, fun _ => ⟨rfl, rfl⟩⟩
                    · exact ⟨wideP (bendP p la lb) C l4 h4, hg1, hc1, hg2, hc2, x, y, ⟨cell_of h rfl, cell_of h rfl, cell_of h rfl, cell_of h rfl, cell_of h rfl⟩, by show rwI _ _ C ∈ _; simp, by show rwS _ _ p.gr ∈ _; simp, like_wide HOK.out (HTN.out.wide HBD.out.1.symm HBD.out.2.1.symm) (fun c hc => by have h1 := HM.out.a0 c hc; have h3 := HLN.out; show 2 * p.ats.getD c 0 ≤ 20000; have hc' : c < p.ats.length := hc; omega) hxy.1 hxy.2 HNE.out, fun h => by omega, fun _ => ⟨rfl, rfl⟩⟩
                  obtain ⟨b0, b1, b2, b3, b4⟩ := hcl
                  have HMA := Lib.hid (And.intro hma hmg)
                  have HLK := Lib.hid hlk
                  have HUV := Lib.hid (And.intro hu0 hu1)
                  have hki : (k : Int) < 3 := by omega
                  clear hma hmg hlk hu0 hu1
                  go_upto_region 22 with (fail)
                  clear b0 b1 b2 b3 b4
                  have HKa := Lib.hid (HK.out.lay (.cells #[.slice (some ⟨xa, 0, none⟩) p.ats.length xc, .slice (some ⟨xb, 0, none⟩) p.gr.length xd, .int .i64 px.tall, .int .i64 px.lo, .int .i64 px.hi] 27))
                  obtain ⟨qx, hqe⟩ : ∃ q, q = wr.heap.size := ⟨_, rfl⟩
                  simp only [← hqe] at HKa ⊢
                  generalize wr.alloc (.cells #[.slice (some ⟨xa, 0, none⟩) p.ats.length xc, .slice (some ⟨xb, 0, none⟩) p.gr.length xd, .int .i64 px.tall, .int .i64 px.lo, .int .i64 px.hi] 27) = wa at HKa ⊢
                  clear HK hqe
                  go_upto_if 153 with (fail)
                  go_cut [26, 27] from 153 to 161 (fun s26 s27 wx => s26 = .int .i64 uu ∧ s27 = .int .i64 vv ∧ wx = wa)
                  case first =>
                    as_aux_lemma =>
                      have hN := HNN.out
                      by_cases hk0 : k = 0
                      · obtain ⟨hu, hv⟩ := HUV.out.1 hk0
                        have ew1 : IntKind.i64.wrap ((N : Int) - 1) = (N1 : Int) := by rw [IntWalk.i64_in _ (by omega)]; omega
                        have ew2 : IntKind.i64.wrap ((N1 : Int) - (x : Int)) = (uu : Int) := by rw [IntWalk.i64_in _ (by omega)]; omega
                        have ew3 : IntKind.i64.wrap ((N1 : Int) - (y : Int)) = (vv : Int) := by rw [IntWalk.i64_in _ (by omega)]; omega
                        have d0 : ((k : Int) == 0) = true := by rw [beq_iff_eq]; omega
                        clear hN hu hv hk0
                        go_wp2
                        go_meet
                        case rel => exact ⟨rfl, rfl, rfl⟩
                      · obtain ⟨rfl, rfl⟩ := HUV.out.2 hk0
                        have d0 : ((k : Int) == 0) = false := by rw [beq_eq_false_iff_ne]; omega
                        clear hN hk0
                        go_wp2
                        go_meet
                        case rel => exact ⟨rfl, rfl, rfl⟩
                  case rest =>
                    as_aux_lemma =>
                      obtain ⟨rfl, rfl, rfl⟩ := hcut
                      obtain ⟨b0, b1, b2, b3, b4⟩ := HKa.out.box5 (q := qx) (a := .slice (some ⟨xa, 0, none⟩) p.ats.length xc) (b := .slice (some ⟨xb, 0, none⟩) p.gr.length xd) (e := .int .i64 px.tall) (f := .int .i64 px.lo) (g := .int .i64 px.hi) (t := 27) (by simp)
                      go_wp2_with fail
                      refine (Sees_any (p := px) (B := wc.heap.size) (Nat.le_refl _) (HKa.out.rsI (.inr HMA.out.1) HLK.out.al) (HKa.out.rsS (.inr HMA.out.2) HLK.out.gl)).mono ?_
                      rintro e W6 ⟨rfl, hb⟩
                      have HKb := Lib.hid (HKa.out.grow hb)
                      rw [sees_ok HLK.out.ok HLK.out.lt.1 HLK.out.lt.2.1 HLK.out.lt.2.2, HLK.out.sees true false, show px.sure uu vv = (bendP p la lb).sure x y from HLK.out.sees false true, ← HCS.out.1, ← HCS.out.2]
                      clear hb HKa b0 b1 b2 b3 b4
                      obtain ⟨b0, b1, b2, b3, b4⟩ := HKb.out.box5 (q := qx) (a := .slice (some ⟨xa, 0, none⟩) p.ats.length xc) (b := .slice (some ⟨xb, 0, none⟩) p.gr.length xd) (e := .int .i64 px.tall) (f := .int .i64 px.lo) (g := .int .i64 px.hi) (t := 27) (by simp)
                      go_wp2_with fail
                      refine (Fewest_any (p := px) (B := W6.heap.size) (Nat.le_refl _) (HKb.out.rsI (.inr HMA.out.1) HLK.out.al) (HKb.out.rsS (.inr HMA.out.2) HLK.out.gl)).mono ?_
                      rintro e W7 ⟨hb, h⟩
                      obtain ⟨mv, M, rfl, ho, hM, hM45⟩ : ∃ v L, e = .returned (.tuple #[v, .int .i64 0]) ∧ W7.ownsRow W6.heap.size 3 1 v L.length (ints (L.map Int.ofNat)) ∧ IsBest px.n px.sure (-1) (px.n - 1) 0 L ∧ L.length ≤ 45 := by
                        rcases h with ⟨h, -⟩ | ⟨-, h⟩
                        · exact absurd HLK.out.ok.err h
                        · exact h
                      have HKc := Lib.hid (HKb.out.addR hb (r := rwI mv M.length (M.map Int.ofNat)) ho)
                      have HFW := Lib.hid (HLK.out.few L M HL.out.1 hM)
                      obtain ⟨ma, mc, rfl⟩ : ∃ a cap, mv = .slice a M.length cap := row_form (r := rwI mv M.length (M.map Int.ofNat)) ho
                      have HM45 := Lib.hid hM45
                      clear h hb ho hM hM45 HKb b0 b1 b2 b3 b4
                      have dc : (cn != cn) = false := by simp
                      have ds : (sr != sr) = false := by simp
                      have dl : (M.length != L.length) = false := by rw [HFW.out.1]; simp
                      have dl2 : ((M.length : Int) != (L.length : Int)) = false := by rw [HFW.out.1]; simp
                      go_upto_region 27 with (fail)
                      go_cut [215] from 175 to 214 (fun s215 wx => s215 = .bool false ∧ Hid (Mem w S w.heap.size dc0 (rwI (.slice ma M.length mc) M.length (M.map Int.ofNat) :: rwI (.slice lga L.length lgc) L.length (L.map Int.ofNat) :: [rwI (.slice (some ⟨ha, 0, none⟩) p.ats.length hc) p.ats.length p.ats, rwS (.slice (some ⟨ga, 0, none⟩) p.gr.length gc) p.gr.length p.gr, rwI (.slice (some ⟨ta, 0, none⟩) T.length tc) T.length T]) [rwI (.slice (some ⟨fg1, 0, none⟩) p.ats.length fc1) p.ats.length A, rwS (.slice (some ⟨fg2, 0, none⟩) p.gr.length fc2) p.gr.length p.gr.reverse, rwI (.slice (some ⟨tg1, 0, none⟩) p.ats.length tc1) p.ats.length B, rwS (.slice (some ⟨tg2, 0, none⟩) p.gr.length tc2) p.gr.length p.gr, rwI (.slice (some ⟨hg1, 0, none⟩) p.ats.length hc1) p.ats.length C, rwS (.slice (some ⟨hg2, 0, none⟩) p.gr.length hc2) p.gr.length p.gr] ((qx, Obj.cells #[.slice (some ⟨xa, 0, none⟩) p.ats.length xc, .slice (some ⟨xb, 0, none⟩) p.gr.length xd, .int .i64 px.tall, .int .i64 px.lo, .int .i64 px.hi] 27 (0, 0)) :: (qz, Obj.cells #[.slice (some ⟨fg1, 0, none⟩) p.ats.length fc1, .slice (some ⟨fg2, 0, none⟩) p.gr.length fc2, .int .i64 p.tall, .int .i64 la, .int .i64 lb, .slice (some ⟨tg1, 0, none⟩) p.ats.length tc1, .slice (some ⟨tg2, 0, none⟩) p.gr.length tc2, .int .i64 p.tall, .int .i64 la, .int .i64 lb, .slice (some ⟨hg1, 0, none⟩) p.ats.length hc1, .slice (some ⟨hg2, 0, none⟩) p.gr.length hc2, .int .i64 p.tall, .int .i64 l4, .int .i64 h4] 27 (0, 0)) :: ((pf, Obj.cells #[.slice (some ⟨fg1, 0, none⟩) p.ats.length fc1, .slice (some ⟨fg2, 0, none⟩) p.gr.length fc2, .int .i64 p.tall, .int .i64 la, .int .i64 lb] 27 (0, 0)) :: (pt, Obj.cells #[.slice (some ⟨tg1, 0, none⟩) p.ats.length tc1, .slice (some ⟨tg2, 0, none⟩) p.gr.length tc2, .int .i64 p.tall, .int .i64 la, .int .i64 lb] 27 (0, 0)) :: (ph, Obj.cells #[.slice (some ⟨hg1, 0, none⟩) p.ats.length hc1, .slice (some ⟨hg2, 0, none⟩) p.gr.length hc2, .int .i64 p.tall, .int .i64 l4, .int .i64 h4] 27 (0, 0)) :: [(q, Obj.cells #[.slice (some ⟨ha, 0, none⟩) p.ats.length hc, .slice (some ⟨ga, 0, none⟩) p.gr.length gc, .int .i64 p.tall, .int .i64 la, .int .i64 lb] 27 (0, 0))])) wx))
                      case first =>
                        as_aux_lemma =>
                          by_cases hk0 : k = 0
                          · subst hk0
                            go_wp2
                            go_meet
                            case rel => exact ⟨rfl, HKc⟩
                          · have d0 : 0 < k := by omega
                            have d1 : decide (0 < k) = true := by rw [decide_eq_true_eq]; exact d0
                            obtain rfl := HFW.out.2 hk0
                            clear hk0
                            go_wp2_with fail
                            refine (equal_ints (l1 := M.map Int.ofNat) (l2 := M.map Int.ofNat) (by rw [List.length_map]; have := HM45.out; omega) (HKc.out.rsI (v := .slice ma M.length mc) (n := M.length) (.inl List.mem_cons_self) (by simp)) (HKc.out.rsI (v := .slice lga M.length lgc) (n := M.length) (.inl (List.mem_cons_of_mem _ List.mem_cons_self)) (by simp))).mono ?_
                            rintro e W8 ⟨rfl, hb⟩
                            have HKe := Lib.hid (HKc.out.grow hb)
                            rw [show decide (M.map Int.ofNat = M.map Int.ofNat) = true from by simp]
                            clear hb HKc
                            go_wp2
                            go_meet
                            case rel => exact ⟨rfl, HKe⟩
                      case rest =>
                        as_aux_lemma =>
                          obtain ⟨rfl, HKe⟩ := hcut
                          have HKf : Hid (Mem w S w.heap.size dc0 (rwI (.slice lga L.length lgc) L.length (L.map Int.ofNat) :: [rwI (.slice (some ⟨ha, 0, none⟩) p.ats.length hc) p.ats.length p.ats, rwS (.slice (some ⟨ga, 0, none⟩) p.gr.length gc) p.gr.length p.gr, rwI (.slice (some ⟨ta, 0, none⟩) T.length tc) T.length T]) [rwI (.slice (some ⟨fg1, 0, none⟩) p.ats.length fc1) p.ats.length A, rwS (.slice (some ⟨fg2, 0, none⟩) p.gr.length fc2) p.gr.length p.gr.reverse, rwI (.slice (some ⟨tg1, 0, none⟩) p.ats.length tc1) p.ats.length B, rwS (.slice (some ⟨tg2, 0, none⟩) p.gr.length tc2) p.gr.length p.gr, rwI (.slice (some ⟨hg1, 0, none⟩) p.ats.length hc1) p.ats.length C, rwS (.slice (some ⟨hg2, 0, none⟩) p.gr.length hc2) p.gr.length p.gr] ((qz, Obj.cells #[.slice (some ⟨fg1, 0, none⟩) p.ats.length fc1, .slice (some ⟨fg2, 0, none⟩) p.gr.length fc2, .int .i64 p.tall, .int .i64 la, .int .i64 lb, .slice (some ⟨tg1, 0, none⟩) p.ats.length tc1, .slice (some ⟨tg2, 0, none⟩) p.gr.length tc2, .int .i64 p.tall, .int .i64 la, .int .i64 lb, .slice (some ⟨hg1, 0, none⟩) p.ats.length hc1, .slice (some ⟨hg2, 0, none⟩) p.gr.length hc2, .int .i64 p.tall, .int .i64 l4, .int .i64 h4] 27 (0, 0)) :: ((pf, Obj.cells #[.slice (some ⟨fg1, 0, none⟩) p.ats.length fc1, .slice (some ⟨fg2, 0, none⟩) p.gr.length fc2, .int .i64 p.tall, .int .i64 la, .int .i64 lb] 27 (0, 0)) :: (pt, Obj.cells #[.slice (some ⟨tg1, 0, none⟩) p.ats.length tc1, .slice (some ⟨tg2, 0, none⟩) p.gr.length tc2, .int .i64 p.tall, .int .i64 la, .int .i64 lb] 27 (0, 0)) :: (ph, Obj.cells #[.slice (some ⟨hg1, 0, none⟩) p.ats.length hc1, .slice (some ⟨hg2, 0, none⟩) p.gr.length hc2, .int .i64 p.tall, .int .i64 l4, .int .i64 h4] 27 (0, 0)) :: [(q, Obj.cells #[.slice (some ⟨ha, 0, none⟩) p.ats.length hc, .slice (some ⟨ga, 0, none⟩) p.gr.length gc, .int .i64 p.tall, .int .i64 la, .int .i64 lb] 27 (0, 0))])) wc) := Lib.hid (HKe.out.less (fun _ h => List.mem_cons_of_mem _ h) (List.Sublist.refl _) (List.sublist_cons_self _ _))
                          clear HKc HKe dc ds dl dl2
                          go_wp2
                          go_roundw
                          case rel => exact ⟨k + 1, by omega, by go_num, HKf⟩
                          case measure => simp [intOf]; omega
                · have hke : ¬ (k : Int) < 3 := by omega
                  go_wp2_with fail
                  refine (awake_any _).mono ?_
                  rintro e wz ⟨rfl, hb⟩
                  have HB := Lib.hid (HK.out.b.trans (hb.mono HK.out.b.size))
                  clear hb
                  go_wp2
                  go_ret
                  exact ⟨rfl, HB.out⟩
end Go.Proofs.Ytobmhamdkngehaa
