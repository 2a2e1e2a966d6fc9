/-
  Parts of the proof, in the order in which they build: Stn.
-/
import Derived.Deep.CutRange
import Derived.BigQuiet
import Derived.Test.YtobmhamdkngehaaC59
import Derived.Test.YtobmhamdkngehaaA20
import Derived.Test.YtobmhamdkngehaaA41
import Derived.Test.YtobmhamdkngehaaC56
set_option linter.unusedVariables false
set_option linter.unusedSimpArgs false
namespace Go.Proofs.Ytobmhamdkngehaa
open Go.RowKit Go.Shelf
open Lim

theorem results_cct {P : Program} {fn : Func} {p q u : Tmp} {ty tz : TypeId} (h : fn.results = #[.cell p ty, .cell q tz, .tmp u]) (tmps : Array Value) (w : World) (b c : Nat) (v v' : Value)
  (hp : tmps.getD p undef = .pointer (some ⟨b, 0, none⟩)) (hq : tmps.getD q undef = .pointer (some ⟨c, 0, none⟩)) (hl : (loadVar ty ⟨b, 0, none⟩).run P w = .ok v w) (hl' : (loadVar tz ⟨c, 0, none⟩).run P w = .ok v' w) : (results fn tmps).run P w = .ok (.tuple #[v, v', tmps.getD u undef]) w := by
 have hp' : tmps[p]?.getD undef = .pointer (some ⟨b, 0, none⟩) := by simpa using hp
 have hq' : tmps[q]?.getD undef = .pointer (some ⟨c, 0, none⟩) := by simpa using hq
 simp [results, h, hp', hq', asAddr, hl, hl']
set_option maxRecDepth 20000 in
set_option maxHeartbeats 8000000 in
theorem stoned_any {d c0 M : Nat} {W0 : World} (hd : Deck W0 d c0) (hc0 : c0 ≤ 100000) (hM : 1 ≤ M ∧ M ≤ 12) :
  Calls Try.prog 40 #[.pointer (some ⟨d, 0, none⟩), .int .i64 (M : Int)] W0 fun e w' => StnAns M d c0 W0 e w' := by
 have hdl : d < W0.heap.size := by obtain ⟨cv, l, k, s, h, -⟩ := hd; exact World.block_lt_of_cell? _ _ h.c.1
 have HK0 := Lib.hid (MemG.start hd)
 have HM0 := Lib.hid (And.intro hM hc0)
 obtain ⟨i0, hi, hz0, hz1, hz2⟩ := info_parts Try.infoSpan
 have HSP := Lib.hid (And.intro hi (And.intro hz0 (And.intro hz1 hz2)))
 clear hi hz0 hz1 hz2
 obtain ⟨i1, hi, hz0, hz1, hz2⟩ := info_parts Try.infoInt
 have HIN := Lib.hid (And.intro hi (And.intro hz0 (And.intro hz1 hz2)))
 clear hi hz0 hz1 hz2 hd hdl hM hc0
 go_enter Try.func40, Try.ntmps40
 go_upto_region 3 with (fail)
 obtain ⟨w1, hw1⟩ : ∃ w1, w1 = W0.alloc (.cells #[.slice none 0 0] 41) := ⟨_, rfl⟩
 obtain ⟨w2, hw2⟩ : ∃ w2, w2 = w1.alloc (.cells #[.slice none 0 0, .slice none 0 0] 43) := ⟨_, rfl⟩
 obtain ⟨w3, hw3⟩ : ∃ w3, w3 = w2.alloc (.cells #[.slice none 0 0] 41) := ⟨_, rfl⟩
 obtain ⟨q4, hq4⟩ : ∃ q, q = W0.heap.size := ⟨_, rfl⟩
 obtain ⟨q5, hq5⟩ : ∃ q, q = q4 + 1 := ⟨_, rfl⟩
 obtain ⟨q7, hq7⟩ : ∃ q, q = q5 + 1 := ⟨_, rfl⟩
 have HK3 : Hid (MemG W0 d c0 [] [] [(q7, .cells #[.slice none 0 0] 41 (0, 0)), (q5, Obj.cells #[.slice none 0 0, .slice none 0 0] 43 (0, 0)), (q4, Obj.cells #[.slice none 0 0] 41 (0, 0))] w3) := Lib.hid (by
  have h := ((HK0.out.lay (.cells #[.slice none 0 0] 41)).lay (.cells #[.slice none 0 0, .slice none 0 0] 43)).lay (.cells #[.slice none 0 0] 41)
  have s1 : w1.heap.size = q5 := by rw [hw1, hq5, hq4]; simp
  have s2 : w2.heap.size = q7 := by rw [hw2, hq7, ← s1]; simp
  rw [← hw1, ← hw2, ← hw3, s1, s2, ← hq4] at h
  exact h)
 simp only [← hw1, ← hw2, ← hw3, ← hq4, ← hq5, ← hq7]
 clear hw1 hw2 hw3 hq4 hq5 hq7 HK0
 go_wp2_with fail
 refine (deck_between HK3.out.m.dk (by have := HM0.out; omega) (by omega) (by have := HM0.out; omega) (by have := HM0.out; omega)).mono ?_
 rintro e w8 ⟨ni, rfl, hni, hdl⟩
 have HK4 := Lib.hid (HK3.out.dealt hdl)
 obtain ⟨N, hN⟩ : ∃ N : Nat, ni = (N : Int) := ⟨ni.toNat, by omega⟩
 subst hN
 have HN : Hid (1 ≤ N ∧ N ≤ M ∧ M ≤ 12) := Lib.hid (by have := HM0.out; omega)
 clear HK3 hni hdl
 go_wp2_with fail
 go_loopw [8, 21] (fun tv i W => ∃ (k c : Nat) (gv : Value) (G : List (Int × Int)) (T : List Int), k ≤ N ∧ i = .int .i64 k ∧ Hid (c ≤ c0 + 1 + 3 * k) ∧ Hid (GapsTo k G T) ∧ Hid (MemG W0 d c [] [rwS gv G.length G, rwI tv T.length T] [(q7, .cells #[gv] 41 (0, 0)), (q5, Obj.cells #[.slice none 0 0, .slice none 0 0] 43 (0, 0)), (q4, Obj.cells #[.slice none 0 0] 41 (0, 0))] W)) (fun _ i _ => N - (intOf i).toNat)
 case atStart => exact ⟨0, _, _, [], [], Nat.zero_le _, rfl, Lib.hid (Nat.le_refl _), Lib.hid GapsTo.nil, Lib.hid ((HK4.out.nilQ 3 1).nilQ 25 2)⟩
 case round =>
  as_aux_lemma =>
   clear HK4
   obtain ⟨k, c, gv, G, T, hk, rfl, HC, HG, HK⟩ := hrel
   by_cases hlt : k < N
   ·have hki : (k : Int) < (N : Int) := by omega
    have hk12 : k < 12 := by have := HN.out; omega
    have HCB : Hid (c + 10 ≤ 200000) := Lib.hid (by have h1 := HC.out; have h2 := HN.out; have h3 := HM0.out; omega)
    go_wp2_with fail
    refine (deck_between (a := 5) (b := 60) HK.out.m.dk (by have := HCB.out; omega) (by omega) (by omega) (by omega)).mono ?_
    rintro e wa ⟨n, rfl, hn, hdl⟩
    have HKa := Lib.hid (HK.out.dealt hdl)
    have HNB : Hid (5 ≤ n ∧ n ≤ 60) := Lib.hid hn
    have HGL : Hid (G.length ≤ 12 ∧ T.length ≤ 12) := Lib.hid (by have h1 := HG.out.lg; have h2 := HG.out.lt; omega)
    clear hdl hn HK
    go_upto_region 6 with (fail)
    have HKad := Lib.hid HKa.out.drew
    have hC : (fun W => W.cell? ⟨q7, 0, none⟩ = some (gv)) wa.drew := (box_cell HKad.out.m (cs := #[gv]) (t := 41) (p := q7) (j := 0) (by simp) rfl).1
    clear HKa
    refine Lim.regC' (fun W => W.cell? ⟨q7, 0, none⟩ = some (gv)) [19] #[false, false, false, false, false, false, false, false, false, false, false, false, false, false, false, false, false, false, false, false, false] (by kernel_rfl) rfl ?_
    refine Lim.stepR 0 (fun _ => trivial) rfl (by kernel_rfl) (fun _ _ _ _ h => h) hC rfl ?_; apply Exists.intro; refine ⟨?_, ?_⟩
    ·rintro w r0; go_simp; try with_reducible rfl
    simp only [Act.put, List.setIfInBounds_toArray, List.set_cons_succ, List.set_cons_zero]
    refine Lim.stepR 1 (fun _ => trivial) rfl (by kernel_rfl) (fun _ _ _ _ h => h) hC rfl ?_; apply Exists.intro; refine ⟨?_, ?_⟩
    ·rintro w r0; go_simp; try with_reducible rfl
    simp only [Act.put, List.setIfInBounds_toArray, List.set_cons_succ, List.set_cons_zero]
    refine Lim.stepR 2 (fun _ => trivial) rfl (by kernel_rfl) (fun _ _ _ _ h => h) hC rfl ?_; apply Exists.intro; refine ⟨?_, ?_⟩
    ·rintro w r0; go_simp; try with_reducible rfl
    simp only [Act.put, List.setIfInBounds_toArray, List.set_cons_succ, List.set_cons_zero]
    refine Lim.stepR 3 (fun _ => trivial) rfl (by kernel_rfl) (fun _ _ _ _ h => h) hC rfl ?_; apply Exists.intro; refine ⟨?_, ?_⟩
    ·rintro w r0; go_simp; try with_reducible rfl
    simp only [Act.put, List.setIfInBounds_toArray, List.set_cons_succ, List.set_cons_zero]
    refine Lim.stepR 7 (fun _ => trivial) rfl (by kernel_rfl) (fun _ _ _ _ h => h) hC rfl ?_; apply Exists.intro; refine ⟨?_, ?_⟩
    ·rintro w r0; go_simp; try with_reducible rfl
    simp only [Act.put, List.setIfInBounds_toArray, List.set_cons_succ, List.set_cons_zero]
    refine Lim.stepR 8 (fun _ => trivial) rfl (by kernel_rfl) (fun _ _ _ _ h => h) hC rfl ?_; apply Exists.intro; refine ⟨?_, ?_⟩
    ·rintro w r0; go_simp; try with_reducible rfl
    simp only [Act.put, List.setIfInBounds_toArray, List.set_cons_succ, List.set_cons_zero]
    refine Lim.stepR 14 (fun _ => trivial) rfl (by kernel_rfl) (fun _ _ _ _ h => h) hC rfl ?_; apply Exists.intro; refine ⟨?_, ?_⟩
    ·rintro w r0; go_simp; try with_reducible rfl
    simp only [Act.put, List.setIfInBounds_toArray, List.set_cons_succ, List.set_cons_zero]
    refine Lim.stepR 15 (fun _ => trivial) rfl (by kernel_rfl) (fun _ _ _ _ h => h) hC rfl ?_; apply Exists.intro; refine ⟨?_, ?_⟩
    ·rintro w r0; go_simp; try with_reducible rfl
    simp only [Act.put, List.setIfInBounds_toArray, List.set_cons_succ, List.set_cons_zero]
    refine Lim.parE [4, 5, 6, 9, 10, 11, 12, 13, 16, 17, 18, 19, 20] (fun done a W => ∃ x4 x5 x6 x9 x10 x11 x12 x13 x16 x17 xf x20 xx yy, a = { tmps := #[.pointer (some ⟨d, 0, none⟩), .int .i64 M, undef, undef, .pointer (some ⟨q4, 0, none⟩), .pointer (some ⟨q5, 0, none⟩), .slice none 0 0, .pointer (some ⟨q7, 0, none⟩), x20, .int .i64 n, undef, undef, undef, undef, undef, undef, undef, undef, .pointer (some ⟨d, 0, none⟩), .int .i64 M, .int .i64 N, .int .i64 k, .bool true, .pointer (some ⟨d, 0, none⟩), .int .i64 n, .pointer (some ⟨q7, 0, none⟩), gv, .int .i64 n, .pointer (some ⟨d, 0, none⟩), x4, x5, x6, .int .i64 n, .pointer (some ⟨d, 0, none⟩), x9, x10, x11, x12, x13, u8, .int .i64 n, x16, x17, xf, u44, undef, undef, undef, undef, undef, undef, undef, undef, undef, undef, undef, undef, undef, undef, undef, undef, undef, undef, undef, undef, undef, undef, undef, undef, undef, undef, undef, undef, undef, undef, undef, undef, undef, undef, undef, undef, undef, undef, undef, undef, undef, undef, undef, undef, undef, undef, undef, undef, undef, undef, undef, undef, undef, undef, undef, undef, undef, undef, undef, undef, undef, undef, undef, undef, undef, undef, undef, undef, undef, undef, undef, undef, undef], defers := [] } ∧ MemG W0 d ((c + 1) + cond (done 4) 1 0 + cond (done 9) 1 0) [] [cond (done 13) (rwS x13 (G ++ [(xx, yy)]).length (G ++ [(xx, yy)])) (rwS (gv) G.length G), cond (done 12) ⟨25, 2, x12, 1, [.int .i64 xx, .int .i64 yy]⟩ (nilRow 25 2), cond (done 17) (rwI x17 (T ++ [n]).length (T ++ [n])) (rwI u8 T.length T), cond (done 16) ⟨3, 1, x16, 1, [.int .i64 n]⟩ (nilRow 3 1)] ((q7, Obj.cells #[cond (done 19) (x13) (gv)] 41 (0, 0)) :: [(q5, Obj.cells #[.slice none 0 0, .slice none 0 0] 43 (0, 0)), (q4, Obj.cells #[.slice none 0 0] 41 (0, 0))]) W ∧ (done 4 = true → ∃ r : Int, x4 = .int .i64 r ∧ 0 ≤ r ∧ r ≤ 4) ∧ (done 5 = true → ∃ r : Int, x5 = .int .i64 r ∧ 1 ≤ r ∧ r ≤ n) ∧ (done 6 = true → ∃ r : Int, x6 = .int .i64 r ∧ 1 ≤ r ∧ r ≤ n) ∧ (done 9 = true → ∃ r : Int, x9 = .int .i64 r ∧ 0 ≤ r ∧ r ≤ 4) ∧ (done 10 = true → ∃ r : Int, x10 = .int .i64 r ∧ n ≤ r ∧ r ≤ n + 4) ∧ (done 11 = true → x11 = .agg #[.int .i64 xx, .int .i64 yy] ∧ 1 ≤ xx ∧ xx ≤ n ∧ n ≤ yy ∧ yy ≤ n + 4) ∧ (done 12 = true → done 11 = true ∧ ∃ b, x12 = .slice (some ⟨b, 0, none⟩) 1 1) ∧ (done 13 = true → done 12 = true) ∧ (done 16 = true → ∃ b, x16 = .slice (some ⟨b, 0, none⟩) 1 1) ∧ (done 17 = true → done 16 = true) ∧ (done 18 = true → xf = .pointer (some ⟨q7, 0, none⟩)) ∧ (done 19 = true → done 13 = true) ∧ (done 20 = true → done 17 = true ∧ x20 = x17)) (fun _ => trivial) (by kernel_rfl) rfl ?hC ?step ?fin ⟨_, _, _, _, _, _, _, _, _, _, _, _, 0, 0, rfl, ((HKad.out.nilAt (Q1 := [_]) 25 2).nilAt (Q1 := [_, _, _]) 3 1), fun h => (by cases h), fun h => (by cases h), fun h => (by cases h), fun h => (by cases h), fun h => (by cases h), fun h => (by cases h), fun h => (by cases h), fun h => (by cases h), fun h => (by cases h), fun h => (by cases h), fun h => (by cases h), fun h => (by cases h), fun h => (by cases h)⟩
    case hC =>
     rintro done a W ⟨x4, x5, x6, x9, x10, x11, x12, x13, x16, x17, xf, x20, xx, yy, rfl, H, e4, e5, e6, e9, e10, e11, e12, e13, e16, e17, e18, e19, e20⟩ hE
     have hS := hE 19 (by simp)
     rw [hS] at H
     exact (box_cell H.m (cs := #[gv]) (t := 41) (p := q7) (j := 0) (by simp) rfl).1
    case step =>
     intro i o hi ho done a W hd hdep hS K hK
     obtain ⟨x4, x5, x6, x9, x10, x11, x12, x13, x16, x17, xf, x20, xx, yy, rfl, H, e4, e5, e6, e9, e10, e11, e12, e13, e16, e17, e18, e19, e20⟩ := hS
     simp only [List.mem_cons, List.not_mem_nil, or_false] at hi
     rcases hi with rfl | rfl | rfl | rfl | rfl | rfl | rfl | rfl | rfl | rfl | rfl | rfl | rfl
     ·cases ho
      clear hdep
      go_simp
      refine ⟨rfl, (callsIn_wide.2 (deck_draw (n := 5) H.m.dk (by have h1 := HCB.out; have h2 : cond (done 4) 1 0 ≤ 1 := cond_one _; have h3 : cond (done 9) 1 0 ≤ 1 := cond_one _; omega))).mono ?_⟩
      rintro e W' ⟨r, rfl, hr, hdl⟩
      refine hK _ _ ?_
      have H1 := H.dealt hdl
      rw [hd] at H1
      refine ⟨_, x5, x6, x9, x10, x11, x12, x13, x16, x17, xf, x20, xx, yy, rfl, ?_, fun _ => ⟨r, rfl, hr.2.1, by have := hr.2.2 (by omega); omega⟩, e5, e6, e9, e10, e11, e12, e13, e16, e17, e18, e19, e20⟩
      show MemG W0 d ((c + 1) + cond (true) 1 0 + cond (done 9) 1 0) [] [cond (done 13) (rwS x13 (G ++ [(xx, yy)]).length (G ++ [(xx, yy)])) (rwS (gv) G.length G), cond (done 12) ⟨25, 2, x12, 1, [.int .i64 xx, .int .i64 yy]⟩ (nilRow 25 2), cond (done 17) (rwI x17 (T ++ [n]).length (T ++ [n])) (rwI u8 T.length T), cond (done 16) ⟨3, 1, x16, 1, [.int .i64 n]⟩ (nilRow 3 1)] ((q7, Obj.cells #[cond (done 19) (x13) (gv)] 41 (0, 0)) :: [(q5, Obj.cells #[.slice none 0 0, .slice none 0 0] 43 (0, 0)), (q4, Obj.cells #[.slice none 0 0] 41 (0, 0))]) W'
      skip
      exact H1.more (by simp only [cond_true, cond_false]; omega)
     ·cases ho
      obtain ⟨r, rfl, hr⟩ := e4 (hdep 4 (by kernel_rfl) (by simp))
      clear hdep
      have ew : IntKind.i64.wrap (n - r) = n - r := IntWalk.i64_in _ (by have := HNB.out; omega)
      go_simp
      refine hK _ _ ?_
      refine ⟨_, _, x6, x9, x10, x11, x12, x13, x16, x17, xf, x20, xx, yy, rfl, ?_, fun _ => ⟨r, rfl, hr⟩, fun _ => ⟨n - r, rfl, by have := HNB.out; omega, by omega⟩, e6, e9, e10, e11, e12, e13, e16, e17, e18, e19, e20⟩
      exact H
     ·cases ho
      obtain ⟨r, rfl, hr⟩ := e5 (hdep 5 (by kernel_rfl) (by simp))
      clear hdep
      go_simp
      refine hK _ _ ?_
      refine ⟨x4, _, _, x9, x10, x11, x12, x13, x16, x17, xf, x20, xx, yy, rfl, ?_, e4, fun _ => ⟨r, rfl, hr⟩, fun _ => ⟨max 1 r, rfl, by omega, by omega⟩, e9, e10, e11, e12, e13, e16, e17, e18, e19, e20⟩
      exact H
     ·cases ho
      clear hdep
      go_simp
      refine ⟨rfl, (callsIn_wide.2 (deck_draw (n := 5) H.m.dk (by have h1 := HCB.out; have h2 : cond (done 4) 1 0 ≤ 1 := cond_one _; have h3 : cond (done 9) 1 0 ≤ 1 := cond_one _; omega))).mono ?_⟩
      rintro e W' ⟨r, rfl, hr, hdl⟩
      refine hK _ _ ?_
      have H1 := H.dealt hdl
      rw [hd] at H1
      refine ⟨x4, x5, x6, _, x10, x11, x12, x13, x16, x17, xf, x20, xx, yy, rfl, ?_, e4, e5, e6, fun _ => ⟨r, rfl, hr.2.1, by have := hr.2.2 (by omega); omega⟩, e10, e11, e12, e13, e16, e17, e18, e19, e20⟩
      show MemG W0 d ((c + 1) + cond (done 4) 1 0 + cond (true) 1 0) [] [cond (done 13) (rwS x13 (G ++ [(xx, yy)]).length (G ++ [(xx, yy)])) (rwS (gv) G.length G), cond (done 12) ⟨25, 2, x12, 1, [.int .i64 xx, .int .i64 yy]⟩ (nilRow 25 2), cond (done 17) (rwI x17 (T ++ [n]).length (T ++ [n])) (rwI u8 T.length T), cond (done 16) ⟨3, 1, x16, 1, [.int .i64 n]⟩ (nilRow 3 1)] ((q7, Obj.cells #[cond (done 19) (x13) (gv)] 41 (0, 0)) :: [(q5, Obj.cells #[.slice none 0 0, .slice none 0 0] 43 (0, 0)), (q4, Obj.cells #[.slice none 0 0] 41 (0, 0))]) W'
      skip
      exact H1.more (by simp only [cond_true, cond_false]; omega)
     ·cases ho
      obtain ⟨r, rfl, hr⟩ := e9 (hdep 9 (by kernel_rfl) (by simp))
      clear hdep
      have ew : IntKind.i64.wrap (n + r) = n + r := IntWalk.i64_in _ (by have := HNB.out; omega)
      go_simp
      refine hK _ _ ?_
      refine ⟨x4, x5, x6, _, _, x11, x12, x13, x16, x17, xf, x20, xx, yy, rfl, ?_, e4, e5, e6, fun _ => ⟨r, rfl, hr⟩, fun _ => ⟨n + r, rfl, by omega, by omega⟩, e11, e12, e13, e16, e17, e18, e19, e20⟩
      exact H
     ·cases ho
      obtain ⟨r1, rfl, hr1⟩ := e6 (hdep 6 (by kernel_rfl) (by simp))
      obtain ⟨r2, rfl, hr2⟩ := e10 (hdep 10 (by kernel_rfl) (by simp))
      clear hdep
      have n12 : done 12 = false := by
       cases h : done 12 with
       | false => rfl
       | true => exact absurd ((e12 h).1) (by rw [hd]; decide)
      have n13 : done 13 = false := by
       cases h : done 13 with
       | false => rfl
       | true => exact absurd (e13 h) (by rw [n12]; decide)
      rw [n12, n13] at H
      go_simp
      refine ⟨rfl, (callsIn_wide.2 (span_any r1 r2 _)).mono ?_⟩
      rintro e W' ⟨rfl, hb⟩
      refine hK _ _ ?_
      have H1 := H.grow hb
      refine ⟨x4, x5, _, x9, _, _, x12, x13, x16, x17, xf, x20, r1, r2, rfl, ?_, e4, e5, fun _ => ⟨r1, rfl, hr1⟩, e9, fun _ => ⟨r2, rfl, hr2⟩, fun _ => ⟨rfl, hr1.1, hr1.2, hr2.1, hr2.2⟩, (fun h => by have h : done 12 = true := h; rw [n12] at h; cases h), (fun h => by have h : done 13 = true := h; rw [n13] at h; cases h), e16, e17, e18, e19, e20⟩
      show MemG W0 d ((c + 1) + cond (done 4) 1 0 + cond (done 9) 1 0) [] [cond (done 13) (rwS x13 (G ++ [(r1, r2)]).length (G ++ [(r1, r2)])) (rwS (gv) G.length G), cond (done 12) ⟨25, 2, x12, 1, [.int .i64 r1, .int .i64 r2]⟩ (nilRow 25 2), cond (done 17) (rwI x17 (T ++ [n]).length (T ++ [n])) (rwI u8 T.length T), cond (done 16) ⟨3, 1, x16, 1, [.int .i64 n]⟩ (nilRow 3 1)] ((q7, Obj.cells #[cond (done 19) (x13) (gv)] 41 (0, 0)) :: [(q5, Obj.cells #[.slice none 0 0, .slice none 0 0] 43 (0, 0)), (q4, Obj.cells #[.slice none 0 0] 41 (0, 0))]) W'
      rw [n12, n13]
      exact H1
     ·cases ho
      have h11 := hdep 11 (by kernel_rfl) (by simp)
      obtain ⟨rfl, hx⟩ := e11 h11
      clear hdep
      rw [hd] at H
      go_simp
      refine hK _ _ ?_
      have H1 := MemG.one (Q1 := [_]) H (xs := [.int .i64 xx, .int .i64 yy]) rfl (by decide)
      refine ⟨x4, x5, x6, x9, x10, _, _, x13, x16, x17, xf, x20, xx, yy, rfl, ?_, e4, e5, e6, e9, e10, fun _ => ⟨rfl, hx⟩, fun _ => ⟨h11, _, rfl⟩, fun _ => rfl, e16, e17, e18, e19, e20⟩
      exact H1
     ·cases ho
      have h12 := hdep 12 (by kernel_rfl) (by simp)
      clear hdep
      have h11 := (e12 h12).1
      have n19 : done 19 = false := by
       cases h : done 19 with
       | false => rfl
       | true => exact absurd (e19 h) (by rw [hd]; decide)
      rw [hd, n19] at H
      have H0 := H
      rw [h12] at H0
      obtain ⟨bq, rfl⟩ := (e12 h12).2
      have o0 : W.ownsRow W0.heap.size 25 2 (gv) G.length (spans G) := H0.m.q (rwS (gv) G.length G) (by simp)
      have o3 : W.ownsRow W0.heap.size 25 2 (.slice (some ⟨bq, 0, none⟩) 1 1) 1 [.int .i64 xx, .int .i64 yy] := H0.m.q ⟨25, 2, .slice (some ⟨bq, 0, none⟩) 1 1, 1, [.int .i64 xx, .int .i64 yy]⟩ (by simp)
      obtain ⟨v', W', hrun, hown, hgrow, -, hat⟩ := run_append_own_at (P := Try.prog) W W0.heap.size 23 23 25 i0 (.agg #[.int .i64 0, .int .i64 0]) 2 16 Try.underlying23 HSP.out.1 HSP.out.2.1 HSP.out.2.2.1 HSP.out.2.2.2 rfl (by decide) _ _ _ o0 ⟨bq, 0, none⟩ 1 1 [.int .i64 xx, .int .i64 yy] rfl (fun j u hj => o3.cells (g := bq) rfl j u hj) (by simp [Value.oneCell']) (by have := HGL.out; unfold maxLen; omega) (by have := HGL.out; omega) H.m.o.2.2
      refine Lim.append_upon rfl rfl rfl hrun (hK _ _ ?_)
      simp only [Act.put, List.setIfInBounds_toArray, List.set_cons_succ, List.set_cons_zero]
      have H1 := MemG.pushS (Q1 := []) H hown hgrow hat
      refine ⟨x4, x5, x6, x9, x10, x11, _, _, x16, x17, xf, x20, xx, yy, rfl, ?_, e4, e5, e6, e9, e10, e11, fun _ => ⟨h11, _, rfl⟩, fun _ => h12, e16, e17, e18, (fun h => by have h : done 19 = true := h; rw [n19] at h; cases h), e20⟩
      show MemG W0 d ((c + 1) + cond (done 4) 1 0 + cond (done 9) 1 0) [] [cond (true) (rwS v' (G ++ [(xx, yy)]).length (G ++ [(xx, yy)])) (rwS (gv) G.length G), cond (done 12) ⟨25, 2, (.slice (some ⟨bq, 0, none⟩) 1 1), 1, [.int .i64 xx, .int .i64 yy]⟩ (nilRow 25 2), cond (done 17) (rwI x17 (T ++ [n]).length (T ++ [n])) (rwI u8 T.length T), cond (done 16) ⟨3, 1, x16, 1, [.int .i64 n]⟩ (nilRow 3 1)] ((q7, Obj.cells #[cond (done 19) (v') (gv)] 41 (0, 0)) :: [(q5, Obj.cells #[.slice none 0 0, .slice none 0 0] 43 (0, 0)), (q4, Obj.cells #[.slice none 0 0] 41 (0, 0))]) _
      rw [n19]
      exact H1
     ·cases ho
      clear hdep
      rw [hd] at H
      go_simp
      refine hK _ _ ?_
      have H1 := MemG.one (Q1 := [_, _, _]) H (xs := [.int .i64 n]) rfl (by decide)
      have n17 : done 17 = false := by
       cases h : done 17 with
       | false => rfl
       | true => exact absurd (e17 h) (by rw [hd]; decide)
      have n20 : done 20 = false := by
       cases h : done 20 with
       | false => rfl
       | true => exact absurd ((e20 h).1) (by rw [n17]; decide)
      refine ⟨x4, x5, x6, x9, x10, x11, x12, x13, _, x17, xf, x20, xx, yy, rfl, ?_, e4, e5, e6, e9, e10, e11, e12, e13, fun _ => ⟨_, rfl⟩, (fun h => by have h : done 17 = true := h; rw [n17] at h; cases h), e18, e19, e20⟩
      exact H1
     ·cases ho
      have h16 := hdep 16 (by kernel_rfl) (by simp)
      clear hdep
      have n20 : done 20 = false := by
       cases h : done 20 with
       | false => rfl
       | true => exact absurd ((e20 h).1) (by rw [hd]; decide)
      rw [hd] at H
      have H0 := H
      rw [h16] at H0
      obtain ⟨bq, rfl⟩ := e16 h16
      have o0 : W.ownsRow W0.heap.size 3 1 u8 T.length (ints T) := H0.m.q (rwI u8 T.length T) (by simp)
      have o3 : W.ownsRow W0.heap.size 3 1 (.slice (some ⟨bq, 0, none⟩) 1 1) 1 [.int .i64 n] := H0.m.q ⟨3, 1, .slice (some ⟨bq, 0, none⟩) 1 1, 1, [.int .i64 n]⟩ (by simp)
      obtain ⟨v', W', hrun, hown, hgrow, -, hat⟩ := run_append_own_at (P := Try.prog) W W0.heap.size 22 22 3 i1 (.int .i64 0) 1 8 Try.underlying22 HIN.out.1 HIN.out.2.1 HIN.out.2.2.1 HIN.out.2.2.2 rfl (by decide) _ _ _ o0 ⟨bq, 0, none⟩ 1 1 [.int .i64 n] rfl (fun j u hj => o3.cells (g := bq) rfl j u hj) (by simp [Value.oneCell']) (by have := HGL.out; unfold maxLen; omega) (by have := HGL.out; omega) H.m.o.2.2
      refine Lim.append_upon rfl rfl rfl hrun (hK _ _ ?_)
      simp only [Act.put, List.setIfInBounds_toArray, List.set_cons_succ, List.set_cons_zero]
      have H1 := MemG.pushI (Q1 := [_, _]) H hown hgrow hat
      refine ⟨x4, x5, x6, x9, x10, x11, x12, x13, _, _, xf, x20, xx, yy, rfl, ?_, e4, e5, e6, e9, e10, e11, e12, e13, fun _ => ⟨_, rfl⟩, fun _ => h16, e18, e19, (fun h => by have h : done 20 = true := h; rw [n20] at h; cases h)⟩
      exact H1
     ·cases ho
      clear hdep
      go_simp
      refine hK _ _ ?_
      refine ⟨x4, x5, x6, x9, x10, x11, x12, x13, x16, x17, _, x20, xx, yy, rfl, ?_, e4, e5, e6, e9, e10, e11, e12, e13, e16, e17, fun _ => rfl, e19, e20⟩
      exact H
     ·cases ho
      have h13 := hdep 13 (by kernel_rfl) (by simp)
      obtain rfl := e18 (hdep 18 (by kernel_rfl) (by simp))
      clear hdep
      rw [hd] at H
      have H0 := H
      rw [h13] at H0
      obtain ⟨aa, ac, rfl⟩ : ∃ a c, x13 = .slice a (G.length + 1) c := by
       obtain ⟨a, c, h⟩ := row_form (r := rwS x13 (G ++ [(xx, yy)]).length (G ++ [(xx, yy)])) (H0.m.q _ (by simp))
       exact ⟨a, c, by rw [show x13 = _ from h]; simp [rwS]⟩
      obtain ⟨z0, z1⟩ := (box_cell H.m (cs := #[gv]) (t := 41) (p := q7) (j := 0) (by simp) rfl)
      clear H0
      go_simp
      clear z0 z1
      refine hK _ _ ?_
      have H1 := MemG.putX (X1 := []) H 0 (.slice aa (G.length + 1) ac)
      refine ⟨x4, x5, x6, x9, x10, x11, x12, _, x16, x17, _, x20, xx, yy, rfl, ?_, e4, e5, e6, e9, e10, e11, e12, e13, e16, e17, fun _ => rfl, fun _ => h13, e20⟩
      exact H1
     ·cases ho
      have h17 := hdep 17 (by kernel_rfl) (by simp)
      clear hdep
      go_simp
      refine hK _ _ ?_
      refine ⟨x4, x5, x6, x9, x10, x11, x12, x13, x16, x17, xf, _, xx, yy, rfl, ?_, e4, e5, e6, e9, e10, e11, e12, e13, e16, e17, e18, e19, fun _ => ⟨h17, rfl⟩⟩
      exact H
    case fin =>
     rintro done a W hall ⟨x4, x5, x6, x9, x10, x11, x12, x13, x16, x17, xf, x20, xx, yy, rfl, H, e4, e5, e6, e9, e10, e11, e12, e13, e16, e17, e18, e19, e20⟩
     replace e4 := e4 (hall 4 (by simp))
     replace e5 := e5 (hall 5 (by simp))
     replace e6 := e6 (hall 6 (by simp))
     replace e9 := e9 (hall 9 (by simp))
     replace e10 := e10 (hall 10 (by simp))
     replace e11 := e11 (hall 11 (by simp))
     replace e12 := e12 (hall 12 (by simp))
     replace e13 := e13 (hall 13 (by simp))
     replace e16 := e16 (hall 16 (by simp))
     replace e17 := e17 (hall 17 (by simp))
     replace e18 := e18 (hall 18 (by simp))
     replace e19 := e19 (hall 19 (by simp))
     replace e20 := e20 (hall 20 (by simp))
     obtain ⟨-, rfl⟩ := e20
     have HX := Lib.hid e11.2
     have HKb : Hid (MemG W0 d (c + 3) [] [rwS x13 (G ++ [(xx, yy)]).length (G ++ [(xx, yy)]), rwI x20 (T ++ [n]).length (T ++ [n])] [(q7, .cells #[x13] 41 (0, 0)), (q5, Obj.cells #[.slice none 0 0, .slice none 0 0] 43 (0, 0)), (q4, Obj.cells #[.slice none 0 0] 41 (0, 0))] W) := Lib.hid (by
      rw [hall 4 (by simp), hall 9 (by simp), hall 12 (by simp), hall 13 (by simp), hall 16 (by simp), hall 17 (by simp), hall 19 (by simp)] at H
      simp only [cond_true] at H
      exact H.less (fun _ h => h) (.cons_cons _ (.cons _ (.cons_cons _ (.cons _ .slnil)))) (List.Sublist.refl _))
     clear H hall e4 e5 e6 e9 e10 e11 e12 e13 e16 e17 e18 e19 HKad hC
     dsimp only
     go_wp2
     go_roundw
     case rel => exact ⟨k + 1, c + 3, x13, G ++ [(xx, yy)], T ++ [n], by omega, by go_num, Lib.hid (by have := HC.out; omega), Lib.hid (HG.out.snoc (by have h1 := HX.out; have h2 := HNB.out; omega) HNB.out), HKb⟩
     case measure => simp [intOf]; omega
   ·have hki : ¬ ((k : Int) < (N : Int)) := by omega
    have hkN : N = k := by omega
    subst hkN
    have hT := HG.out.lt
    have hk12 : N ≤ 12 := by have := HN.out; omega
    have hk1 : 1 ≤ N := by have := HN.out; omega
    rw [hT] at HK
    obtain ⟨tg, tcap, rfl⟩ : ∃ g cap, u8 = .slice (some ⟨g, 0, none⟩) N cap := form_pos (r := rwI u8 N T) (HK.out.m.q _ (by simp)) (show 0 < N by omega)
    have htc : N ≤ tcap := own_cap (HK.out.m.q (rwI (.slice (some ⟨tg, 0, none⟩) N tcap) N T) (by simp))
    have HC0 : Hid (c ≤ c0 + 37) := Lib.hid (by have h1 := HC.out; have h2 := HN.out; omega)
    clear hk hlt HC hT
    go_upto_region 9 with (fail)
    have HK10 := Lib.hid (HK.out.lay (.cells #[.slice none 0 0, .slice none 0 0] 43))
    obtain ⟨q10, hqe⟩ : ∃ q, q = wr.heap.size := ⟨_, rfl⟩
    simp only [← hqe] at HK10 ⊢
    generalize wr.alloc (.cells #[.slice none 0 0, .slice none 0 0] 43) = w10 at HK10 ⊢
    clear HK hqe
    go_wp2_with fail
    clear hki
    go_loopw [11, 48] (fun lv i W => ∃ (j c2 : Nat) (fv mv : Value) (L : List Nat) (A : List Int) (F : List (Int × Int)) (Mm : List Int), j ≤ N + 1 ∧ i = .int .i64 j ∧ Hid (c2 ≤ c + 4 * j) ∧ Hid (FindTo T j L F Mm ∧ (j ≤ N ∨ 0 < L.length) ∧ A = L.map Int.ofNat ∧ A.length = L.length) ∧ Hid (MemG W0 d c2 [] [rwS fv F.length F, rwS gv G.length G, rwI (.slice (some ⟨tg, 0, none⟩) N tcap) N T, rwI lv A.length A, rwI mv Mm.length Mm] [(q10, Obj.cells #[fv, mv] 43 (0, 0)), (q7, Obj.cells #[gv] 41 (0, 0)), (q5, Obj.cells #[.slice none 0 0, .slice none 0 0] 43 (0, 0)), (q4, Obj.cells #[.slice none 0 0] 41 (0, 0))] W)) (fun _ i _ => N + 1 - (intOf i).toNat)
    case atStart => exact ⟨0, c, _, _, [], [], [], [], Nat.zero_le _, rfl, Lib.hid (Nat.le_refl _), Lib.hid ⟨FindTo.nil _, .inl (Nat.zero_le _), rfl, rfl⟩, Lib.hid (((HK10.out.nilQ 25 2).nilAt (Q1 := [_, _, _]) (Q2 := []) 3 1).nilAt (Q1 := [_, _, _]) 3 1)⟩
    case round =>
     as_aux_lemma =>
      clear HK10
      obtain ⟨j, c2, fv, mv, L, A, F, Mm, hj, rfl, HC2, HF, HK⟩ := hrel
      obtain ⟨la, lc, rfl⟩ : ∃ a c, u11 = .slice a A.length c := row_form (r := rwI u11 A.length A) (HK.out.m.q _ (by simp))
      by_cases hjk : j < N + 1
      ·have hji : (j : Int) < (N : Int) + 1 := by omega
       have hj13 : j ≤ 12 := by omega
       have HCB : Hid (c2 + 10 ≤ 200000) := Lib.hid (by have h1 := HC2.out; have h2 := HC0.out; have h3 := HM0.out; omega)
       have HLL : Hid (A.length ≤ j ∧ Mm.length = A.length ∧ F.length ≤ 12 ∧ A.length = L.length) := Lib.hid (by have h1 := HF.out.1.len; have h2 := HF.out.1.lm; have h3 := HF.out.1.lf; have h4 := HF.out.2.2.2; omega)
       go_upto_region 13 with (fail)
       go_cut [64] from 51 to 63 (fun s64 wx => ∃ (bb : Bool), s64 = .bool bb ∧ Hid (bb = true → j < N ∨ 0 < A.length) ∧ Hid (MemG W0 d (c2 + 1) [] [rwS fv F.length F, rwS gv G.length G, rwI (.slice (some ⟨tg, 0, none⟩) N tcap) N T, rwI (.slice la A.length lc) A.length A, rwI mv Mm.length Mm] [(q10, Obj.cells #[fv, mv] 43 (0, 0)), (q7, Obj.cells #[gv] 41 (0, 0)), (q5, Obj.cells #[.slice none 0 0, .slice none 0 0] 43 (0, 0)), (q4, Obj.cells #[.slice none 0 0] 41 (0, 0))] wx))
       case first =>
        as_aux_lemma =>
         go_wp2_with fail
         refine (deck_draw (n := 3) HK.out.m.dk (by have := HCB.out; omega)).mono ?_
         rintro e W2 ⟨r, rfl, -, hdl⟩
         have HKa := Lib.hid (HK.out.dealt hdl)
         obtain ⟨bb, hbb⟩ : ∃ bb, (r == 0) = bb := ⟨_, rfl⟩
         clear hdl HK
         cases bb with
         | false =>
          go_wp2
          go_meet
          case rel => exact ⟨false, rfl, Lib.hid (fun h => by cases h), HKa⟩
         | true =>
          by_cases h1 : j < N
          ·have h1' : (j : Int) < (N : Int) := by omega
           go_wp2
           go_meet
           case rel => exact ⟨true, rfl, Lib.hid (fun _ => .inl h1), HKa⟩
          ·have h1' : ¬ ((j : Int) < (N : Int)) := by omega
           by_cases h2 : 0 < A.length
           ·have h2' : (0 : Int) < (A.length : Int) := by omega
            go_wp2
            go_meet
            case rel => exact ⟨true, rfl, Lib.hid (fun _ => .inr h2), HKa⟩
           ·have h2' : ¬ ((0 : Int) < (A.length : Int)) := by omega
            go_wp2
            go_meet
            case rel => exact ⟨false, rfl, Lib.hid (fun h => by cases h), HKa⟩
       case rest =>
        as_aux_lemma =>
         obtain ⟨bb, rfl, HBB, HKa⟩ := hcut
         clear HK
         cases bb with
         | true =>
          go_wp2
          go_roundw
          case rel => exact ⟨j + 1, c2 + 1, fv, mv, L, A, F, Mm, by omega, by go_num, Lib.hid (by have := HC2.out; omega), Lib.hid ⟨HF.out.1.skip, by have h2 := HF.out.2.2.2; rcases HBB.out rfl with h | h <;> omega, HF.out.2.2⟩, HKa⟩
          case measure => simp [intOf]; omega
         | false =>
          clear HBB
          go_upto_if 68 with (fail)
          go_cut [14, 16] from 68 to 100 (fun _ _ wx => ∃ (fv1 : Value) (F1 : List (Int × Int)), Hid (∀ m, (m = -1 ∨ m = (j : Int)) → FindTo T (j + 1) (L ++ [j]) F1 (Mm ++ [m])) ∧ Hid (MemG W0 d (c2 + 3) [] [rwS fv1 F1.length F1, rwS gv G.length G, rwI (.slice (some ⟨tg, 0, none⟩) N tcap) N T, rwI (.slice la A.length lc) A.length A, rwI mv Mm.length Mm] [(q10, Obj.cells #[fv1, mv] 43 (0, 0)), (q7, Obj.cells #[gv] 41 (0, 0)), (q5, Obj.cells #[.slice none 0 0, .slice none 0 0] 43 (0, 0)), (q4, Obj.cells #[.slice none 0 0] 41 (0, 0))] wx))
          case first =>
           as_aux_lemma =>
            by_cases hL : A.length = 0
            ·have hl0 : ¬ ((0 : Int) < (A.length : Int)) := by omega
             have HL0 := Lib.hid hL
             clear hL
             go_wp2
             go_meet
             case rel => exact ⟨fv, F, Lib.hid (fun m hm => by obtain rfl : L = [] := List.length_eq_zero_iff.1 (by have := HLL.out; have := HL0.out; omega); exact HF.out.1.first hm), Lib.hid (HKa.out.more (by omega))⟩
            ·obtain ⟨lg, lgc, hlf⟩ : ∃ g cap, (Value.slice la A.length lc) = .slice (some ⟨g, 0, none⟩) A.length cap := form_pos (r := rwI (.slice la A.length lc) A.length A) (HKa.out.m.q _ (by simp)) (show 0 < A.length by omega)
             cases hlf
             obtain ⟨n1, hn1⟩ : ∃ n1, n1 = A.length - 1 := ⟨_, rfl⟩
             have hl0 : (0 : Int) < (A.length : Int) := by omega
             have ew : IntKind.i64.wrap ((A.length : Int) - 1) = (n1 : Int) := by rw [IntWalk.i64_in _ (by have := HLL.out; omega)]; omega
             have hb1 : (n1 : Int) < (A.length : Int) := by omega
             have HN1 := Lib.hid (And.intro hn1 (show 0 < A.length by omega))
             obtain ⟨x, hx⟩ : ∃ x, x = L.getD n1 0 := ⟨_, rfl⟩
             have hxj : x < j := by rw [hx]; exact HF.out.1.lt n1 (by have := HLL.out; omega)
             have q0 := HKa.out.m.cellI (g := lg) (n := A.length) (cap := lc) (l := A) (.inr (by simp)) (j := n1) (by omega)
             rw [HF.out.2.2.1, getD_map, ← hx] at q0
             have HX0 := Lib.hid hx
             have hxi : (x : Int) ≤ (j : Int) := by omega
             have hjc : (j : Int) ≤ (tcap : Int) := by omega
             clear hx hn1 hL
             go_wp2_with fail
             rw [show decide (0 < A.length) = true from decide_eq_true (by omega)]
             clear ew hb1 q0 hl0
             go_loopw [14, 78] (fun lo i W => ∃ t : Nat, x + t ≤ j ∧ i = .int .i64 t ∧ lo = .int .i64 (seg T x t) ∧ Hid (MemG W0 d (c2 + 1) [] [rwS fv F.length F, rwS gv G.length G, rwI (.slice (some ⟨tg, 0, none⟩) N tcap) N T, rwI (.slice (some ⟨lg, 0, none⟩) A.length lc) A.length A, rwI mv Mm.length Mm] [(q10, Obj.cells #[fv, mv] 43 (0, 0)), (q7, Obj.cells #[gv] 41 (0, 0)), (q5, Obj.cells #[.slice none 0 0, .slice none 0 0] 43 (0, 0)), (q4, Obj.cells #[.slice none 0 0] 41 (0, 0))] W)) (fun _ i _ => j - (intOf i).toNat)
             case atStart => exact ⟨0, by omega, rfl, rfl, HKa⟩
             case round =>
              as_aux_lemma =>
               clear HKa
               obtain ⟨t, hxt, rfl, rfl, HK⟩ := hrel
               by_cases hlt : x + t < j
               ·have hti : (t : Int) < (j : Int) - (x : Int) := by omega
                have hti2 : t < j - x := by omega
                have qt := HK.out.m.cellI (g := tg) (n := N) (cap := tcap) (l := T) (.inr (by simp)) (j := x + t) (by rw [HG.out.lt]; omega)
                obtain ⟨xv, hxv⟩ : ∃ xv, xv = T.getD (x + t) 0 := ⟨_, rfl⟩
                rw [← hxv] at qt
                have HXV := Lib.hid hxv
                have hsg := seg_range HG.out x t (by omega)
                have hx60 := HG.out.h (x + t) (by omega)
                have ew : IntKind.i64.wrap (seg T x t + xv) = seg T x (t + 1) := by
                 rw [IntWalk.i64_in _ (by rw [hxv]; omega), hxv]; rfl
                clear hxv hsg hx60
                go_wp2
                go_roundw
                case rel => exact ⟨t + 1, by omega, by go_num, rfl, HK⟩
                case measure => simp [intOf]; omega
               ·have hti : ¬ ((t : Int) < (j : Int) - (x : Int)) := by omega
                have hti2 : ¬ (t < j - x) := by omega
                obtain ⟨long, hlong⟩ : ∃ l, l = seg T x t := ⟨_, rfl⟩
                rw [← hlong]
                have HLG : Hid (long = seg T x (j - x)) := Lib.hid (by rw [hlong, show t = j - x by omega])
                have HNB : Hid (5 ≤ long ∧ long ≤ 720) := Lib.hid (by
                 rw [HLG.out]
                 have := seg_range HG.out x (j - x) (by omega)
                 omega)
                have HGL : Hid (F.length ≤ 12 ∧ A.length ≤ 12) := Lib.hid (by have := HLL.out; omega)
                clear hlong
                go_upto_region 22 with (fail)
                have HKd := Lib.hid HK.out.drew
                have hC : (fun W => W.cell? ⟨q10, 0, none⟩ = some (fv)) wr.drew := (box_cell HKd.out.m (cs := #[fv, mv]) (t := 43) (p := q10) (j := 0) (by simp) rfl).1
                clear HK
                refine Lim.regC' (fun W => W.cell? ⟨q10, 0, none⟩ = some (fv)) [15] #[false, false, false, false, false, false, false, false, false, false, false, false, false, false, false, false] (by kernel_rfl) rfl ?_
                refine Lim.stepR 0 (fun _ => trivial) rfl (by kernel_rfl) (fun _ _ _ _ h => h) hC rfl ?_; apply Exists.intro; refine ⟨?_, ?_⟩
                ·rintro w r0; go_simp; try with_reducible rfl
                simp only [Act.put, List.setIfInBounds_toArray, List.set_cons_succ, List.set_cons_zero]
                refine Lim.stepR 1 (fun _ => trivial) rfl (by kernel_rfl) (fun _ _ _ _ h => h) hC rfl ?_; apply Exists.intro; refine ⟨?_, ?_⟩
                ·rintro w r0; go_simp; try with_reducible rfl
                simp only [Act.put, List.setIfInBounds_toArray, List.set_cons_succ, List.set_cons_zero]
                refine Lim.stepR 2 (fun _ => trivial) rfl (by kernel_rfl) (fun _ _ _ _ h => h) hC rfl ?_; apply Exists.intro; refine ⟨?_, ?_⟩
                ·rintro w r0; go_simp; try with_reducible rfl
                simp only [Act.put, List.setIfInBounds_toArray, List.set_cons_succ, List.set_cons_zero]
                refine Lim.stepR 3 (fun _ => trivial) rfl (by kernel_rfl) (fun _ _ _ _ h => h) hC rfl ?_; apply Exists.intro; refine ⟨?_, ?_⟩
                ·rintro w r0; go_simp; try with_reducible rfl
                simp only [Act.put, List.setIfInBounds_toArray, List.set_cons_succ, List.set_cons_zero]
                refine Lim.stepR 7 (fun _ => trivial) rfl (by kernel_rfl) (fun _ _ _ _ h => h) hC rfl ?_; apply Exists.intro; refine ⟨?_, ?_⟩
                ·rintro w r0; go_simp; try with_reducible rfl
                simp only [Act.put, List.setIfInBounds_toArray, List.set_cons_succ, List.set_cons_zero]
                refine Lim.stepR 8 (fun _ => trivial) rfl (by kernel_rfl) (fun _ _ _ _ h => h) hC rfl ?_; apply Exists.intro; refine ⟨?_, ?_⟩
                ·rintro w r0; go_simp; try with_reducible rfl
                simp only [Act.put, List.setIfInBounds_toArray, List.set_cons_succ, List.set_cons_zero]
                refine Lim.parE [4, 5, 6, 9, 10, 11, 12, 13, 14, 15] (fun done a W => ∃ x4 x5 x6 x9 x10 x11 x12 x13 xf xx yy, a = { tmps := #[.pointer (some ⟨d, 0, none⟩), .int .i64 M, undef, undef, .pointer (some ⟨q4, 0, none⟩), .pointer (some ⟨q5, 0, none⟩), .slice none 0 0, .pointer (some ⟨q7, 0, none⟩), .slice (some ⟨tg, 0, none⟩) N tcap, u9, .pointer (some ⟨q10, 0, none⟩), .slice (some ⟨lg, 0, none⟩) A.length lc, .int .i64 j, .int .i64 A.length, .int .i64 long, undef, u16, u17, .pointer (some ⟨d, 0, none⟩), .int .i64 M, .int .i64 N, .int .i64 N, .bool false, u23, u24, u25, u26, u27, u28, u29, u30, u31, u32, u33, u34, u35, u36, u37, u38, u39, u40, u41, u42, u43, u44, .slice (some ⟨tg, 0, none⟩) N tcap, .int .i64 N, .int .i64 (N + 1), .int .i64 j, .bool true, .int .i64 j, u51, u52, u53, u54, u55, u56, u57, u58, u59, u60, u61, u62, u63, .bool false, .slice (some ⟨lg, 0, none⟩) A.length lc, .int .i64 A.length, .int .i64 A.length, .bool true, .slice (some ⟨tg, 0, none⟩) N tcap, .slice (some ⟨lg, 0, none⟩) A.length lc, .int .i64 A.length, .int .i64 n1, .pointer (some ⟨lg, n1, none⟩), .int .i64 x, .int .i64 j, .slice (some ⟨tg, x, none⟩) (j - x) (tcap - x), .int .i64 ((j - x : Nat) : Int), .int .i64 t, .bool false, u80, u81, u82, u83, u84, u85, .pointer (some ⟨q10, 0, none⟩), fv, .int .i64 long, .pointer (some ⟨d, 0, none⟩), x4, x5, x6, .int .i64 long, .pointer (some ⟨d, 0, none⟩), x9, x10, x11, x12, x13, xf, u101, u102, u103, u104, u105, u106, u107, u108, u109, u110, u111, u112, u113, u114, undef, undef, undef], defers := [] } ∧ MemG W0 d ((c2 + 1) + cond (done 4) 1 0 + cond (done 9) 1 0) [] [cond (done 13) (rwS x13 (F ++ [(xx, yy)]).length (F ++ [(xx, yy)])) (rwS (fv) F.length F), cond (done 12) ⟨25, 2, x12, 1, [.int .i64 xx, .int .i64 yy]⟩ (nilRow 25 2), rwS gv G.length G, rwI (.slice (some ⟨tg, 0, none⟩) N tcap) N T, rwI (.slice (some ⟨lg, 0, none⟩) A.length lc) A.length A, rwI mv Mm.length Mm] ((q10, Obj.cells #[cond (done 15) (x13) (fv), mv] 43 (0, 0)) :: [(q7, Obj.cells #[gv] 41 (0, 0)), (q5, Obj.cells #[.slice none 0 0, .slice none 0 0] 43 (0, 0)), (q4, Obj.cells #[.slice none 0 0] 41 (0, 0))]) W ∧ (done 4 = true → ∃ r : Int, x4 = .int .i64 r ∧ 0 ≤ r ∧ r ≤ 3) ∧ (done 5 = true → ∃ r : Int, x5 = .int .i64 r ∧ 1 ≤ r ∧ r ≤ long) ∧ (done 6 = true → ∃ r : Int, x6 = .int .i64 r ∧ 1 ≤ r ∧ r ≤ long) ∧ (done 9 = true → ∃ r : Int, x9 = .int .i64 r ∧ 0 ≤ r ∧ r ≤ 3) ∧ (done 10 = true → ∃ r : Int, x10 = .int .i64 r ∧ long ≤ r ∧ r ≤ long + 3) ∧ (done 11 = true → x11 = .agg #[.int .i64 xx, .int .i64 yy] ∧ 1 ≤ xx ∧ xx ≤ long ∧ long ≤ yy ∧ yy ≤ long + 3) ∧ (done 12 = true → done 11 = true ∧ ∃ b, x12 = .slice (some ⟨b, 0, none⟩) 1 1) ∧ (done 13 = true → done 12 = true) ∧ (done 14 = true → xf = .pointer (some ⟨q10, 0, none⟩)) ∧ (done 15 = true → done 13 = true)) (fun _ => trivial) (by kernel_rfl) rfl ?hC ?step ?fin ⟨_, _, _, _, _, _, _, _, _, 0, 0, rfl, (HKd.out.nilAt (Q1 := [_]) 25 2), fun h => (by cases h), fun h => (by cases h), fun h => (by cases h), fun h => (by cases h), fun h => (by cases h), fun h => (by cases h), fun h => (by cases h), fun h => (by cases h), fun h => (by cases h), fun h => (by cases h)⟩
                case hC =>
                 rintro done a W ⟨x4, x5, x6, x9, x10, x11, x12, x13, xf, xx, yy, rfl, H, e4, e5, e6, e9, e10, e11, e12, e13, e14, e15⟩ hE
                 have hS := hE 15 (by simp)
                 rw [hS] at H
                 exact (box_cell H.m (cs := #[fv, mv]) (t := 43) (p := q10) (j := 0) (by simp) rfl).1
                case step =>
                 intro i o hi ho done a W hd hdep hS K hK
                 obtain ⟨x4, x5, x6, x9, x10, x11, x12, x13, xf, xx, yy, rfl, H, e4, e5, e6, e9, e10, e11, e12, e13, e14, e15⟩ := hS
                 simp only [List.mem_cons, List.not_mem_nil, or_false] at hi
                 rcases hi with rfl | rfl | rfl | rfl | rfl | rfl | rfl | rfl | rfl | rfl
                 ·cases ho
                  clear hdep
                  go_simp
                  refine ⟨rfl, (callsIn_wide.2 (deck_draw (n := 4) H.m.dk (by have h1 := HCB.out; have h2 : cond (done 4) 1 0 ≤ 1 := cond_one _; have h3 : cond (done 9) 1 0 ≤ 1 := cond_one _; omega))).mono ?_⟩
                  rintro e W' ⟨r, rfl, hr, hdl⟩
                  refine hK _ _ ?_
                  have H1 := H.dealt hdl
                  rw [hd] at H1
                  refine ⟨_, x5, x6, x9, x10, x11, x12, x13, xf, xx, yy, rfl, ?_, fun _ => ⟨r, rfl, hr.2.1, by have := hr.2.2 (by omega); omega⟩, e5, e6, e9, e10, e11, e12, e13, e14, e15⟩
                  show MemG W0 d ((c2 + 1) + cond (true) 1 0 + cond (done 9) 1 0) [] [cond (done 13) (rwS x13 (F ++ [(xx, yy)]).length (F ++ [(xx, yy)])) (rwS (fv) F.length F), cond (done 12) ⟨25, 2, x12, 1, [.int .i64 xx, .int .i64 yy]⟩ (nilRow 25 2), rwS gv G.length G, rwI (.slice (some ⟨tg, 0, none⟩) N tcap) N T, rwI (.slice (some ⟨lg, 0, none⟩) A.length lc) A.length A, rwI mv Mm.length Mm] ((q10, Obj.cells #[cond (done 15) (x13) (fv), mv] 43 (0, 0)) :: [(q7, Obj.cells #[gv] 41 (0, 0)), (q5, Obj.cells #[.slice none 0 0, .slice none 0 0] 43 (0, 0)), (q4, Obj.cells #[.slice none 0 0] 41 (0, 0))]) W'
                  skip
                  exact H1.more (by simp only [cond_true, cond_false]; omega)
                 ·cases ho
                  obtain ⟨r, rfl, hr⟩ := e4 (hdep 4 (by kernel_rfl) (by simp))
                  clear hdep
                  have ew : IntKind.i64.wrap (long - r) = long - r := IntWalk.i64_in _ (by have := HNB.out; omega)
                  go_simp
                  refine hK _ _ ?_
                  refine ⟨_, _, x6, x9, x10, x11, x12, x13, xf, xx, yy, rfl, ?_, fun _ => ⟨r, rfl, hr⟩, fun _ => ⟨long - r, rfl, by have := HNB.out; omega, by omega⟩, e6, e9, e10, e11, e12, e13, e14, e15⟩
                  exact H
                 ·cases ho
                  obtain ⟨r, rfl, hr⟩ := e5 (hdep 5 (by kernel_rfl) (by simp))
                  clear hdep
                  go_simp
                  refine hK _ _ ?_
                  refine ⟨x4, _, _, x9, x10, x11, x12, x13, xf, xx, yy, rfl, ?_, e4, fun _ => ⟨r, rfl, hr⟩, fun _ => ⟨max 1 r, rfl, by omega, by omega⟩, e9, e10, e11, e12, e13, e14, e15⟩
                  exact H
                 ·cases ho
                  clear hdep
                  go_simp
                  refine ⟨rfl, (callsIn_wide.2 (deck_draw (n := 4) H.m.dk (by have h1 := HCB.out; have h2 : cond (done 4) 1 0 ≤ 1 := cond_one _; have h3 : cond (done 9) 1 0 ≤ 1 := cond_one _; omega))).mono ?_⟩
                  rintro e W' ⟨r, rfl, hr, hdl⟩
                  refine hK _ _ ?_
                  have H1 := H.dealt hdl
                  rw [hd] at H1
                  refine ⟨x4, x5, x6, _, x10, x11, x12, x13, xf, xx, yy, rfl, ?_, e4, e5, e6, fun _ => ⟨r, rfl, hr.2.1, by have := hr.2.2 (by omega); omega⟩, e10, e11, e12, e13, e14, e15⟩
                  show MemG W0 d ((c2 + 1) + cond (done 4) 1 0 + cond (true) 1 0) [] [cond (done 13) (rwS x13 (F ++ [(xx, yy)]).length (F ++ [(xx, yy)])) (rwS (fv) F.length F), cond (done 12) ⟨25, 2, x12, 1, [.int .i64 xx, .int .i64 yy]⟩ (nilRow 25 2), rwS gv G.length G, rwI (.slice (some ⟨tg, 0, none⟩) N tcap) N T, rwI (.slice (some ⟨lg, 0, none⟩) A.length lc) A.length A, rwI mv Mm.length Mm] ((q10, Obj.cells #[cond (done 15) (x13) (fv), mv] 43 (0, 0)) :: [(q7, Obj.cells #[gv] 41 (0, 0)), (q5, Obj.cells #[.slice none 0 0, .slice none 0 0] 43 (0, 0)), (q4, Obj.cells #[.slice none 0 0] 41 (0, 0))]) W'
                  skip
                  exact H1.more (by simp only [cond_true, cond_false]; omega)
                 ·cases ho
                  obtain ⟨r, rfl, hr⟩ := e9 (hdep 9 (by kernel_rfl) (by simp))
                  clear hdep
                  have ew : IntKind.i64.wrap (long + r) = long + r := IntWalk.i64_in _ (by have := HNB.out; omega)
                  go_simp
                  refine hK _ _ ?_
                  refine ⟨x4, x5, x6, _, _, x11, x12, x13, xf, xx, yy, rfl, ?_, e4, e5, e6, fun _ => ⟨r, rfl, hr⟩, fun _ => ⟨long + r, rfl, by omega, by omega⟩, e11, e12, e13, e14, e15⟩
                  exact H
                 ·cases ho
                  obtain ⟨r1, rfl, hr1⟩ := e6 (hdep 6 (by kernel_rfl) (by simp))
                  obtain ⟨r2, rfl, hr2⟩ := e10 (hdep 10 (by kernel_rfl) (by simp))
                  clear hdep
                  have n12 : done 12 = false := by
                   cases h : done 12 with
                   | false => rfl
                   | true => exact absurd ((e12 h).1) (by rw [hd]; decide)
                  have n13 : done 13 = false := by
                   cases h : done 13 with
                   | false => rfl
                   | true => exact absurd (e13 h) (by rw [n12]; decide)
                  rw [n12, n13] at H
                  go_simp
                  refine ⟨rfl, (callsIn_wide.2 (span_any r1 r2 _)).mono ?_⟩
                  rintro e W' ⟨rfl, hb⟩
                  refine hK _ _ ?_
                  have H1 := H.grow hb
                  refine ⟨x4, x5, _, x9, _, _, x12, x13, xf, r1, r2, rfl, ?_, e4, e5, fun _ => ⟨r1, rfl, hr1⟩, e9, fun _ => ⟨r2, rfl, hr2⟩, fun _ => ⟨rfl, hr1.1, hr1.2, hr2.1, hr2.2⟩, (fun h => by have h : done 12 = true := h; rw [n12] at h; cases h), (fun h => by have h : done 13 = true := h; rw [n13] at h; cases h), e14, e15⟩
                  show MemG W0 d ((c2 + 1) + cond (done 4) 1 0 + cond (done 9) 1 0) [] [cond (done 13) (rwS x13 (F ++ [(r1, r2)]).length (F ++ [(r1, r2)])) (rwS (fv) F.length F), cond (done 12) ⟨25, 2, x12, 1, [.int .i64 r1, .int .i64 r2]⟩ (nilRow 25 2), rwS gv G.length G, rwI (.slice (some ⟨tg, 0, none⟩) N tcap) N T, rwI (.slice (some ⟨lg, 0, none⟩) A.length lc) A.length A, rwI mv Mm.length Mm] ((q10, Obj.cells #[cond (done 15) (x13) (fv), mv] 43 (0, 0)) :: [(q7, Obj.cells #[gv] 41 (0, 0)), (q5, Obj.cells #[.slice none 0 0, .slice none 0 0] 43 (0, 0)), (q4, Obj.cells #[.slice none 0 0] 41 (0, 0))]) W'
                  rw [n12, n13]
                  exact H1
                 ·cases ho
                  have h11 := hdep 11 (by kernel_rfl) (by simp)
                  obtain ⟨rfl, hx⟩ := e11 h11
                  clear hdep
                  rw [hd] at H
                  go_simp
                  refine hK _ _ ?_
                  have H1 := MemG.one (Q1 := [_]) H (xs := [.int .i64 xx, .int .i64 yy]) rfl (by decide)
                  refine ⟨x4, x5, x6, x9, x10, _, _, x13, xf, xx, yy, rfl, ?_, e4, e5, e6, e9, e10, fun _ => ⟨rfl, hx⟩, fun _ => ⟨h11, _, rfl⟩, fun _ => rfl, e14, e15⟩
                  exact H1
                 ·cases ho
                  have h12 := hdep 12 (by kernel_rfl) (by simp)
                  clear hdep
                  have h11 := (e12 h12).1
                  have n15 : done 15 = false := by
                   cases h : done 15 with
                   | false => rfl
                   | true => exact absurd (e15 h) (by rw [hd]; decide)
                  rw [hd, n15] at H
                  have H0 := H
                  rw [h12] at H0
                  obtain ⟨bq, rfl⟩ := (e12 h12).2
                  have o0 : W.ownsRow W0.heap.size 25 2 (fv) F.length (spans F) := H0.m.q (rwS (fv) F.length F) (by simp)
                  have o3 : W.ownsRow W0.heap.size 25 2 (.slice (some ⟨bq, 0, none⟩) 1 1) 1 [.int .i64 xx, .int .i64 yy] := H0.m.q ⟨25, 2, .slice (some ⟨bq, 0, none⟩) 1 1, 1, [.int .i64 xx, .int .i64 yy]⟩ (by simp)
                  obtain ⟨v', W', hrun, hown, hgrow, -, hat⟩ := run_append_own_at (P := Try.prog) W W0.heap.size 23 23 25 i0 (.agg #[.int .i64 0, .int .i64 0]) 2 16 Try.underlying23 HSP.out.1 HSP.out.2.1 HSP.out.2.2.1 HSP.out.2.2.2 rfl (by decide) _ _ _ o0 ⟨bq, 0, none⟩ 1 1 [.int .i64 xx, .int .i64 yy] rfl (fun j u hj => o3.cells (g := bq) rfl j u hj) (by simp [Value.oneCell']) (by have := HGL.out; unfold maxLen; omega) (by have := HGL.out; omega) H.m.o.2.2
                  refine Lim.append_upon rfl rfl rfl hrun (hK _ _ ?_)
                  simp only [Act.put, List.setIfInBounds_toArray, List.set_cons_succ, List.set_cons_zero]
                  have H1 := MemG.pushS (Q1 := []) H hown hgrow hat
                  refine ⟨x4, x5, x6, x9, x10, x11, _, _, xf, xx, yy, rfl, ?_, e4, e5, e6, e9, e10, e11, fun _ => ⟨h11, _, rfl⟩, fun _ => h12, e14, (fun h => by have h : done 15 = true := h; rw [n15] at h; cases h)⟩
                  show MemG W0 d ((c2 + 1) + cond (done 4) 1 0 + cond (done 9) 1 0) [] [cond (true) (rwS v' (F ++ [(xx, yy)]).length (F ++ [(xx, yy)])) (rwS (fv) F.length F), cond (done 12) ⟨25, 2, (.slice (some ⟨bq, 0, none⟩) 1 1), 1, [.int .i64 xx, .int .i64 yy]⟩ (nilRow 25 2), rwS gv G.length G, rwI (.slice (some ⟨tg, 0, none⟩) N tcap) N T, rwI (.slice (some ⟨lg, 0, none⟩) A.length lc) A.length A, rwI mv Mm.length Mm] ((q10, Obj.cells #[cond (done 15) (v') (fv), mv] 43 (0, 0)) :: [(q7, Obj.cells #[gv] 41 (0, 0)), (q5, Obj.cells #[.slice none 0 0, .slice none 0 0] 43 (0, 0)), (q4, Obj.cells #[.slice none 0 0] 41 (0, 0))]) _
                  rw [n15]
                  exact H1
                 ·cases ho
                  clear hdep
                  go_simp
                  refine hK _ _ ?_
                  refine ⟨x4, x5, x6, x9, x10, x11, x12, x13, _, xx, yy, rfl, ?_, e4, e5, e6, e9, e10, e11, e12, e13, fun _ => rfl, e15⟩
                  exact H
                 ·cases ho
                  have h13 := hdep 13 (by kernel_rfl) (by simp)
                  obtain rfl := e14 (hdep 14 (by kernel_rfl) (by simp))
                  clear hdep
                  rw [hd] at H
                  have H0 := H
                  rw [h13] at H0
                  obtain ⟨aa, ac, rfl⟩ : ∃ a c, x13 = .slice a (F.length + 1) c := by
                   obtain ⟨a, c, h⟩ := row_form (r := rwS x13 (F ++ [(xx, yy)]).length (F ++ [(xx, yy)])) (H0.m.q _ (by simp))
                   exact ⟨a, c, by rw [show x13 = _ from h]; simp [rwS]⟩
                  obtain ⟨z0, z1⟩ := (box_cell H.m (cs := #[fv, mv]) (t := 43) (p := q10) (j := 0) (by simp) rfl)
                  clear H0
                  go_simp
                  clear z0 z1
                  refine hK _ _ ?_
                  have H1 := MemG.putX (X1 := []) H 0 (.slice aa (F.length + 1) ac)
                  refine ⟨x4, x5, x6, x9, x10, x11, x12, _, _, xx, yy, rfl, ?_, e4, e5, e6, e9, e10, e11, e12, e13, fun _ => rfl, fun _ => h13⟩
                  exact H1
                case fin =>
                 rintro done a W hall ⟨x4, x5, x6, x9, x10, x11, x12, x13, xf, xx, yy, rfl, H, e4, e5, e6, e9, e10, e11, e12, e13, e14, e15⟩
                 replace e4 := e4 (hall 4 (by simp))
                 replace e5 := e5 (hall 5 (by simp))
                 replace e6 := e6 (hall 6 (by simp))
                 replace e9 := e9 (hall 9 (by simp))
                 replace e10 := e10 (hall 10 (by simp))
                 replace e11 := e11 (hall 11 (by simp))
                 replace e12 := e12 (hall 12 (by simp))
                 replace e13 := e13 (hall 13 (by simp))
                 replace e14 := e14 (hall 14 (by simp))
                 replace e15 := e15 (hall 15 (by simp))
                 have HX := Lib.hid e11.2
                 have HKb : Hid (MemG W0 d (c2 + 3) [] [rwS x13 (F ++ [(xx, yy)]).length (F ++ [(xx, yy)]), rwS gv G.length G, rwI (.slice (some ⟨tg, 0, none⟩) N tcap) N T, rwI (.slice (some ⟨lg, 0, none⟩) A.length lc) A.length A, rwI mv Mm.length Mm] [(q10, .cells #[x13, mv] 43), (q7, .cells #[gv] 41 (0, 0)), (q5, Obj.cells #[.slice none 0 0, .slice none 0 0] 43 (0, 0)), (q4, Obj.cells #[.slice none 0 0] 41 (0, 0))] W) := Lib.hid (by
                  rw [hall 4 (by simp), hall 9 (by simp), hall 12 (by simp), hall 13 (by simp), hall 15 (by simp)] at H
                  simp only [cond_true] at H
                  exact H.less (fun _ h => h) (.cons_cons _ (.cons _ (List.Sublist.refl _))) (List.Sublist.refl _))
                 clear H hall e4 e5 e6 e9 e10 e11 e12 e13 e14 HKd hC
                 dsimp only
                 go_wp2
                 go_meet
                 case rel => exact ⟨x13, F ++ [(xx, yy)], Lib.hid (fun m hm => by
                   have h1 := HLL.out
                   have h2 := HN1.out
                   refine HF.out.1.snoc (by omega) hm ?_
                   rw [show L.length - 1 = n1 by omega, ← HX0.out, ← HLG.out]
                   have h3 := HX.out
                   have h4 := HNB.out
                   omega), HKb⟩
          case rest =>
           as_aux_lemma =>
            obtain ⟨fv1, F1, HF1, HK1⟩ := hcut
            clear HKa
            go_wp2_with fail
            refine (deck_coin (n := 4) HK1.out.m.dk (by have := HCB.out; omega)).mono ?_
            rintro e W2 ⟨b4, rfl, hdl⟩
            have HK2 := Lib.hid (HK1.out.dealt hdl)
            clear hdl HK1
            go_upto_if 102 with (fail)
            go_cut [17] from 102 to 103 (fun s17 wx => ∃ m : Int, s17 = .int .i64 m ∧ Hid (m = -1 ∨ m = (j : Int)) ∧ Hid (MemG W0 d (c2 + 4) [] [rwS fv1 F1.length F1, rwS gv G.length G, rwI (.slice (some ⟨tg, 0, none⟩) N tcap) N T, rwI (.slice la A.length lc) A.length A, rwI mv Mm.length Mm] [(q10, Obj.cells #[fv1, mv] 43 (0, 0)), (q7, Obj.cells #[gv] 41 (0, 0)), (q5, Obj.cells #[.slice none 0 0, .slice none 0 0] 43 (0, 0)), (q4, Obj.cells #[.slice none 0 0] 41 (0, 0))] wx))
            case first =>
             as_aux_lemma =>
              cases b4 with
              | false =>
               go_wp2
               go_meet
               case rel => exact ⟨-1, rfl, Lib.hid (.inl rfl), HK2⟩
              | true =>
               go_wp2
               go_meet
               case rel => exact ⟨j, rfl, Lib.hid (.inr rfl), HK2⟩
            case rest =>
             as_aux_lemma =>
              obtain ⟨m, rfl, HM1, HK3⟩ := hcut
              clear HK2
              have HGL : Hid (A.length ≤ 13 ∧ Mm.length ≤ 13) := Lib.hid (by have := HLL.out; omega)
              go_upto_region 26 with (fail)
              have HKd := Lib.hid HK3.out.drew
              have hC : (fun W => W.cell? ⟨q10, 1, none⟩ = some mv) wc.drew := (box_cell HKd.out.m (cs := #[fv1, mv]) (t := 43) (p := q10) (j := 1) (by simp) rfl).1
              clear HK3
              refine Lim.regC' (fun W => W.cell? ⟨q10, 1, none⟩ = some mv) [11] #[false, false, false, false, false, false, false, false, false, false, false, false] (by kernel_rfl) rfl ?_
              refine Lim.stepR 0 (fun _ => trivial) rfl (by kernel_rfl) (fun _ _ _ _ h => h) hC rfl ?_; apply Exists.intro; refine ⟨?_, ?_⟩
              ·rintro w r0; go_simp; try with_reducible rfl
              simp only [Act.put, List.setIfInBounds_toArray, List.set_cons_succ, List.set_cons_zero]
              refine Lim.stepR 1 (fun _ => trivial) rfl (by kernel_rfl) (fun _ _ _ _ h => h) hC rfl ?_; apply Exists.intro; refine ⟨?_, ?_⟩
              ·rintro w r0; go_simp; try with_reducible rfl
              simp only [Act.put, List.setIfInBounds_toArray, List.set_cons_succ, List.set_cons_zero]
              refine Lim.stepR 4 (fun _ => trivial) rfl (by kernel_rfl) (fun _ _ _ _ h => h) hC rfl ?_; apply Exists.intro; refine ⟨?_, ?_⟩
              ·rintro w r0; go_simp; try with_reducible rfl
              simp only [Act.put, List.setIfInBounds_toArray, List.set_cons_succ, List.set_cons_zero]
              refine Lim.stepR 5 (fun _ => trivial) rfl (by kernel_rfl) (fun _ _ _ _ h => h) hC rfl ?_; apply Exists.intro; refine ⟨?_, ?_⟩
              ·rintro w r0; go_simp; try with_reducible rfl
              simp only [Act.put, List.setIfInBounds_toArray, List.set_cons_succ, List.set_cons_zero]
              refine Lim.stepR 6 (fun _ => trivial) rfl (by kernel_rfl) (fun _ _ _ _ h => h) hC rfl ?_; apply Exists.intro; refine ⟨?_, ?_⟩
              ·rintro w r0; go_simp; try with_reducible rfl
              simp only [Act.put, List.setIfInBounds_toArray, List.set_cons_succ, List.set_cons_zero]
              refine Lim.parE [2, 3, 7, 8, 9, 10, 11] (fun done a W => ∃ x2 x3 x7 x8 x9 xf, a = { tmps := #[.pointer (some ⟨d, 0, none⟩), .int .i64 M, undef, undef, .pointer (some ⟨q4, 0, none⟩), .pointer (some ⟨q5, 0, none⟩), .slice none 0 0, .pointer (some ⟨q7, 0, none⟩), .slice (some ⟨tg, 0, none⟩) N tcap, u9, .pointer (some ⟨q10, 0, none⟩), x9, .int .i64 j, .int .i64 A.length, u14, undef, u16, .int .i64 m, .pointer (some ⟨d, 0, none⟩), .int .i64 M, .int .i64 N, .int .i64 N, .bool false, u23, u24, u25, u26, u27, u28, u29, u30, u31, u32, u33, u34, u35, u36, u37, u38, u39, u40, u41, u42, u43, u44, .slice (some ⟨tg, 0, none⟩) N tcap, .int .i64 N, .int .i64 (N + 1), .int .i64 j, .bool true, .int .i64 j, u51, u52, u53, u54, u55, u56, u57, u58, u59, u60, u61, u62, u63, .bool false, .slice la A.length lc, .int .i64 A.length, .int .i64 A.length, u68, u69, u70, u71, u72, u73, u74, u75, u76, u77, u78, u79, u80, u81, u82, u83, u84, u85, u86, u87, u88, u89, u90, u91, u92, u93, u94, u95, u96, u97, u98, u99, u100, .pointer (some ⟨d, 0, none⟩), u102, u103, .slice la A.length lc, .int .i64 j, x2, x3, .pointer (some ⟨q10, 1, none⟩), mv, .int .i64 m, x7, x8, xf, u114, undef, undef, undef], defers := [] } ∧ MemG W0 d (c2 + 4) [] [rwS fv1 F1.length F1, rwS gv G.length G, rwI (.slice (some ⟨tg, 0, none⟩) N tcap) N T, cond (done 3) (rwI x3 (A ++ [(j : Int)]).length (A ++ [(j : Int)])) (rwI (.slice la A.length lc) A.length A), cond (done 2) ⟨3, 1, x2, 1, [.int .i64 j]⟩ (nilRow 3 1), cond (done 8) (rwI x8 (Mm ++ [m]).length (Mm ++ [m])) (rwI mv Mm.length Mm), cond (done 7) ⟨3, 1, x7, 1, [.int .i64 m]⟩ (nilRow 3 1)] [(q10, Obj.cells #[fv1, cond (done 11) x8 mv] 43 (0, 0)), (q7, Obj.cells #[gv] 41 (0, 0)), (q5, Obj.cells #[.slice none 0 0, .slice none 0 0] 43 (0, 0)), (q4, Obj.cells #[.slice none 0 0] 41 (0, 0))] W ∧ (done 2 = true → ∃ b, x2 = .slice (some ⟨b, 0, none⟩) 1 1) ∧ (done 3 = true → done 2 = true) ∧ (done 7 = true → ∃ b, x7 = .slice (some ⟨b, 0, none⟩) 1 1) ∧ (done 8 = true → done 7 = true) ∧ (done 9 = true → done 3 = true ∧ x9 = x3) ∧ (done 10 = true → xf = .pointer (some ⟨q10, 1, none⟩)) ∧ (done 11 = true → done 8 = true)) (fun _ => trivial) (by kernel_rfl) rfl ?hC ?step ?fin ⟨_, _, _, _, _, _, rfl, (HKd.out.nilAt (Q1 := [_, _, _, _, _]) (Q2 := []) 3 1 |>.nilAt (Q1 := [_, _, _, _]) 3 1), fun h => (by cases h), fun h => (by cases h), fun h => (by cases h), fun h => (by cases h), fun h => (by cases h), fun h => (by cases h), fun h => (by cases h)⟩
              case hC =>
               rintro done a W ⟨x2, x3, x7, x8, x9, xf, rfl, H, e2, e3, e7, e8, e9, e10, e11⟩ hE
               have hS := hE 11 (by simp)
               rw [hS] at H
               exact (box_cell H.m (cs := #[fv1, mv]) (t := 43) (p := q10) (j := 1) (by simp) rfl).1
              case step =>
               intro i o hi ho done a W hd hdep hS K hK
               obtain ⟨x2, x3, x7, x8, x9, xf, rfl, H, e2, e3, e7, e8, e9, e10, e11⟩ := hS
               simp only [List.mem_cons, List.not_mem_nil, or_false] at hi
               rcases hi with rfl | rfl | rfl | rfl | rfl | rfl | rfl
               ·cases ho
                clear hdep
                have n3 : done 3 = false := by
                 cases h : done 3 with
                 | false => rfl
                 | true => exact absurd (e3 h) (by rw [hd]; decide)
                have n9 : done 9 = false := by
                 cases h : done 9 with
                 | false => rfl
                 | true => exact absurd ((e9 h).1) (by rw [n3]; decide)
                rw [hd, n3] at H
                go_simp
                refine hK _ _ ?_
                have H1 := MemG.one (Q1 := [_, _, _, _]) H (xs := [.int .i64 (j : Int)]) rfl (by decide)
                refine ⟨_, x3, x7, x8, x9, xf, rfl, ?_, fun _ => ⟨_, rfl⟩, (fun h => by have h : done 3 = true := h; rw [n3] at h; cases h), e7, e8, (fun h => by have h : done 9 = true := h; rw [n9] at h; cases h), e10, e11⟩
                show MemG W0 d (c2 + 4) [] [rwS fv1 F1.length F1, rwS gv G.length G, rwI (.slice (some ⟨tg, 0, none⟩) N tcap) N T, cond (done 3) (rwI x3 (A ++ [(j : Int)]).length (A ++ [(j : Int)])) (rwI (.slice la A.length lc) A.length A), cond (true) ⟨3, 1, (.slice (some ⟨W.heap.size, 0, none⟩) 1 1), 1, [.int .i64 j]⟩ (nilRow 3 1), cond (done 8) (rwI x8 (Mm ++ [m]).length (Mm ++ [m])) (rwI mv Mm.length Mm), cond (done 7) ⟨3, 1, x7, 1, [.int .i64 m]⟩ (nilRow 3 1)] [(q10, Obj.cells #[fv1, cond (done 11) x8 mv] 43 (0, 0)), (q7, Obj.cells #[gv] 41 (0, 0)), (q5, Obj.cells #[.slice none 0 0, .slice none 0 0] 43 (0, 0)), (q4, Obj.cells #[.slice none 0 0] 41 (0, 0))] _
                rw [n3]
                exact H1
               ·cases ho
                have h2 := hdep 2 (by kernel_rfl) (by simp)
                clear hdep
                have n9 : done 9 = false := by
                 cases h : done 9 with
                 | false => rfl
                 | true => exact absurd ((e9 h).1) (by rw [hd]; decide)
                rw [hd] at H
                have H0 := H
                rw [h2] at H0
                obtain ⟨bq, rfl⟩ := e2 h2
                have o0 : W.ownsRow W0.heap.size 3 1 (.slice la A.length lc) A.length (ints A) := H0.m.q (rwI (.slice la A.length lc) A.length A) (by simp)
                have o3 : W.ownsRow W0.heap.size 3 1 (.slice (some ⟨bq, 0, none⟩) 1 1) 1 [.int .i64 (j : Int)] := H0.m.q ⟨3, 1, .slice (some ⟨bq, 0, none⟩) 1 1, 1, [.int .i64 (j : Int)]⟩ (by simp)
                obtain ⟨v', W', hrun, hown, hgrow, -, hat⟩ := run_append_own_at (P := Try.prog) W W0.heap.size 22 22 3 i1 (.int .i64 0) 1 8 Try.underlying22 HIN.out.1 HIN.out.2.1 HIN.out.2.2.1 HIN.out.2.2.2 rfl (by decide) _ _ _ o0 ⟨bq, 0, none⟩ 1 1 [.int .i64 (j : Int)] rfl (fun j u hj => o3.cells (g := bq) rfl j u hj) (by simp [Value.oneCell']) (by have := HGL.out; unfold maxLen; omega) (by have := HGL.out; omega) H.m.o.2.2
                refine Lim.append_upon rfl rfl rfl hrun (hK _ _ ?_)
                simp only [Act.put, List.setIfInBounds_toArray, List.set_cons_succ, List.set_cons_zero]
                have H1 := MemG.pushI (Q1 := [_, _, _]) H hown hgrow hat
                refine ⟨_, _, x7, x8, x9, xf, rfl, ?_, fun _ => ⟨_, rfl⟩, fun _ => h2, e7, e8, (fun h => by have h : done 9 = true := h; rw [n9] at h; cases h), e10, e11⟩
                exact H1
               ·cases ho
                clear hdep
                have n8 : done 8 = false := by
                 cases h : done 8 with
                 | false => rfl
                 | true => exact absurd (e8 h) (by rw [hd]; decide)
                have n11 : done 11 = false := by
                 cases h : done 11 with
                 | false => rfl
                 | true => exact absurd ((e11 h)) (by rw [n8]; decide)
                rw [hd, n8, n11] at H
                go_simp
                refine hK _ _ ?_
                have H1 := MemG.one (Q1 := [_, _, _, _, _, _]) H (xs := [.int .i64 m]) rfl (by decide)
                refine ⟨x2, x3, _, x8, x9, xf, rfl, ?_, e2, e3, fun _ => ⟨_, rfl⟩, (fun h => by have h : done 8 = true := h; rw [n8] at h; cases h), e9, e10, (fun h => by have h : done 11 = true := h; rw [n11] at h; cases h)⟩
                show MemG W0 d (c2 + 4) [] [rwS fv1 F1.length F1, rwS gv G.length G, rwI (.slice (some ⟨tg, 0, none⟩) N tcap) N T, cond (done 3) (rwI x3 (A ++ [(j : Int)]).length (A ++ [(j : Int)])) (rwI (.slice la A.length lc) A.length A), cond (done 2) ⟨3, 1, x2, 1, [.int .i64 j]⟩ (nilRow 3 1), cond (done 8) (rwI x8 (Mm ++ [m]).length (Mm ++ [m])) (rwI mv Mm.length Mm), cond (true) ⟨3, 1, (.slice (some ⟨W.heap.size, 0, none⟩) 1 1), 1, [.int .i64 m]⟩ (nilRow 3 1)] [(q10, Obj.cells #[fv1, cond (done 11) x8 mv] 43 (0, 0)), (q7, Obj.cells #[gv] 41 (0, 0)), (q5, Obj.cells #[.slice none 0 0, .slice none 0 0] 43 (0, 0)), (q4, Obj.cells #[.slice none 0 0] 41 (0, 0))] _
                rw [n8, n11]
                exact H1
               ·cases ho
                have h7 := hdep 7 (by kernel_rfl) (by simp)
                clear hdep
                have n11 : done 11 = false := by
                 cases h : done 11 with
                 | false => rfl
                 | true => exact absurd (e11 h) (by rw [hd]; decide)
                rw [hd, n11] at H
                have H0 := H
                rw [h7] at H0
                obtain ⟨bq, rfl⟩ := e7 h7
                have o0 : W.ownsRow W0.heap.size 3 1 (mv) Mm.length (ints Mm) := H0.m.q (rwI mv Mm.length Mm) (by simp)
                have o3 : W.ownsRow W0.heap.size 3 1 (.slice (some ⟨bq, 0, none⟩) 1 1) 1 [.int .i64 m] := H0.m.q ⟨3, 1, .slice (some ⟨bq, 0, none⟩) 1 1, 1, [.int .i64 m]⟩ (by simp)
                obtain ⟨v', W', hrun, hown, hgrow, -, hat⟩ := run_append_own_at (P := Try.prog) W W0.heap.size 22 22 3 i1 (.int .i64 0) 1 8 Try.underlying22 HIN.out.1 HIN.out.2.1 HIN.out.2.2.1 HIN.out.2.2.2 rfl (by decide) _ _ _ o0 ⟨bq, 0, none⟩ 1 1 [.int .i64 m] rfl (fun j u hj => o3.cells (g := bq) rfl j u hj) (by simp [Value.oneCell']) (by have := HGL.out; unfold maxLen; omega) (by have := HGL.out; omega) H.m.o.2.2
                refine Lim.append_upon rfl rfl rfl hrun (hK _ _ ?_)
                simp only [Act.put, List.setIfInBounds_toArray, List.set_cons_succ, List.set_cons_zero]
                have H1 := MemG.pushI (Q1 := [_, _, _, _, _]) H hown hgrow hat
                refine ⟨x2, x3, _, _, x9, xf, rfl, ?_, e2, e3, fun _ => ⟨_, rfl⟩, fun _ => h7, e9, e10, (fun h => by have h : done 11 = true := h; rw [n11] at h; cases h)⟩
                show MemG W0 d (c2 + 4) [] [rwS fv1 F1.length F1, rwS gv G.length G, rwI (.slice (some ⟨tg, 0, none⟩) N tcap) N T, cond (done 3) (rwI x3 (A ++ [(j : Int)]).length (A ++ [(j : Int)])) (rwI (.slice la A.length lc) A.length A), cond (done 2) ⟨3, 1, x2, 1, [.int .i64 j]⟩ (nilRow 3 1), cond (true) (rwI v' (Mm ++ [m]).length (Mm ++ [m])) (rwI mv Mm.length Mm), cond (done 7) ⟨3, 1, (.slice (some ⟨bq, 0, none⟩) 1 1), 1, [.int .i64 m]⟩ (nilRow 3 1)] [(q10, Obj.cells #[fv1, cond (done 11) v' mv] 43 (0, 0)), (q7, Obj.cells #[gv] 41 (0, 0)), (q5, Obj.cells #[.slice none 0 0, .slice none 0 0] 43 (0, 0)), (q4, Obj.cells #[.slice none 0 0] 41 (0, 0))] _
                rw [n11]
                exact H1
               ·cases ho
                have h3 := hdep 3 (by kernel_rfl) (by simp)
                clear hdep
                go_simp
                refine hK _ _ ?_
                refine ⟨x2, x3, x7, x8, _, xf, rfl, ?_, e2, e3, e7, e8, fun _ => ⟨h3, rfl⟩, e10, e11⟩
                exact H
               ·cases ho
                clear hdep
                go_simp
                refine hK _ _ ?_
                refine ⟨x2, x3, x7, x8, x9, _, rfl, ?_, e2, e3, e7, e8, e9, fun _ => rfl, e11⟩
                exact H
               ·cases ho
                have h8 := hdep 8 (by kernel_rfl) (by simp)
                obtain rfl := e10 (hdep 10 (by kernel_rfl) (by simp))
                clear hdep
                rw [hd] at H
                have H0 := H
                rw [h8] at H0
                obtain ⟨aa, ac, rfl⟩ : ∃ a c, x8 = .slice a (Mm.length + 1) c := by
                 obtain ⟨a, c, h⟩ := row_form (r := rwI x8 (Mm ++ [m]).length (Mm ++ [m])) (H0.m.q _ (by simp))
                 exact ⟨a, c, by rw [show x8 = _ from h]; simp [rwI]⟩
                obtain ⟨z0, z1⟩ := (box_cell H.m (cs := #[fv1, mv]) (t := 43) (p := q10) (j := 1) (by simp) rfl)
                clear H0
                go_simp
                clear z0 z1
                refine hK _ _ ?_
                have H1 := MemG.putX (X1 := []) H 1 (.slice aa (Mm.length + 1) ac)
                refine ⟨x2, x3, x7, _, x9, _, rfl, ?_, e2, e3, e7, e8, e9, fun _ => rfl, fun _ => h8⟩
                exact H1
              case fin =>
               rintro done a W hall ⟨x2, x3, x7, x8, x9, xf, rfl, H, e2, e3, e7, e8, e9, e10, e11⟩
               replace e2 := e2 (hall 2 (by simp))
               replace e3 := e3 (hall 3 (by simp))
               replace e7 := e7 (hall 7 (by simp))
               replace e8 := e8 (hall 8 (by simp))
               replace e9 := e9 (hall 9 (by simp))
               replace e10 := e10 (hall 10 (by simp))
               replace e11 := e11 (hall 11 (by simp))
               obtain ⟨-, rfl⟩ := e9
               have HKe : Hid (MemG W0 d (c2 + 4) [] [rwS fv1 F1.length F1, rwS gv G.length G, rwI (.slice (some ⟨tg, 0, none⟩) N tcap) N T, rwI x9 (A ++ [(j : Int)]).length (A ++ [(j : Int)]), rwI x8 (Mm ++ [m]).length (Mm ++ [m])] [(q10, .cells #[fv1, x8] 43), (q7, .cells #[gv] 41 (0, 0)), (q5, Obj.cells #[.slice none 0 0, .slice none 0 0] 43 (0, 0)), (q4, Obj.cells #[.slice none 0 0] 41 (0, 0))] W) := Lib.hid (by
                rw [hall 2 (by simp), hall 3 (by simp), hall 7 (by simp), hall 8 (by simp), hall 11 (by simp)] at H
                simp only [cond_true] at H
                exact H.less (fun _ h => h) (.cons_cons _ (.cons_cons _ (.cons_cons _ (.cons_cons _ (.cons _ (.cons_cons _ (.cons _ .slnil))))))) (List.Sublist.refl _))
               clear H hall e2 e3 e7 e8 e10 e11 HKd hC
               dsimp only
               go_wp2
               go_roundw
               case rel => exact ⟨j + 1, c2 + 4, fv1, x8, L ++ [j], A ++ [(j : Int)], F1, Mm ++ [m], by omega, by go_num, Lib.hid (by have := HC2.out; omega), Lib.hid ⟨HF1.out m HM1.out, .inr (by simp), by rw [HF.out.2.2.1, List.map_append]; rfl, by simp [HF.out.2.2.2]⟩, HKe⟩
               case measure => simp [intOf]; omega
      ·have hji : ¬ ((j : Int) < (N : Int) + 1) := by omega
       have HEX : Hid (j = N + 1) := Lib.hid (by omega)
       clear hjk hj
       go_upto_region 28 with (fail)
       obtain ⟨ga, gc, rfl⟩ : ∃ a c, gv = .slice a G.length c := row_form (r := rwS gv G.length G) (HK.out.m.q _ (by simp))
       obtain ⟨fa, fc, rfl⟩ : ∃ a c, fv = .slice a F.length c := row_form (r := rwS fv F.length F) (HK.out.m.q _ (by simp))
       obtain ⟨ma, mc, rfl⟩ : ∃ a c, mv = .slice a Mm.length c := row_form (r := rwI mv Mm.length Mm) (HK.out.m.q _ (by simp))
       have HKd := Lib.hid HK.out.drew
       have hC : (fun W => W.cell? ⟨q7, 0, none⟩ = some (.slice ga G.length gc) ∧ W.cell? ⟨q10, 0, none⟩ = some (.slice fa F.length fc) ∧ W.cell? ⟨q10, 1, none⟩ = some (.slice ma Mm.length mc)) wr.drew := ⟨(box_cell HKd.out.m (cs := #[.slice ga G.length gc]) (t := 41) (p := q7) (j := 0) (by simp) rfl).1, (box_cell HKd.out.m (cs := #[.slice fa F.length fc, .slice ma Mm.length mc]) (t := 43) (p := q10) (j := 0) (by simp) rfl).1, (box_cell HKd.out.m (cs := #[.slice fa F.length fc, .slice ma Mm.length mc]) (t := 43) (p := q10) (j := 1) (by simp) rfl).1⟩
       clear HK
       generalize hW0 : wr.drew = W6 at HKd hC
       refine Lim.regC' (fun W => W.cell? ⟨q7, 0, none⟩ = some (.slice ga G.length gc) ∧ W.cell? ⟨q10, 0, none⟩ = some (.slice fa F.length fc) ∧ W.cell? ⟨q10, 1, none⟩ = some (.slice ma Mm.length mc)) [] #[false, false, false, false, false, false] (by kernel_rfl) rfl ?_
       rw [hW0]; clear hW0
       refine Lim.stepR 0 (fun _ => trivial) rfl (by kernel_rfl) (fun _ _ _ _ h => h) hC rfl ?_; apply Exists.intro; refine ⟨?_, ?_⟩
       ·rintro w ⟨r0, r1, r2⟩; go_simp; try with_reducible rfl
       simp only [Act.put, List.setIfInBounds_toArray, List.set_cons_succ, List.set_cons_zero]
       refine Lim.stepR 1 (fun _ => trivial) rfl (by kernel_rfl) (fun _ _ _ _ h => h) hC rfl ?_; apply Exists.intro; refine ⟨?_, ?_⟩
       ·rintro w ⟨r0, r1, r2⟩; go_simp; try with_reducible rfl
       simp only [Act.put, List.setIfInBounds_toArray, List.set_cons_succ, List.set_cons_zero]
       refine Lim.stepR 2 (fun _ => trivial) rfl (by kernel_rfl) (fun _ _ _ _ h => h) hC rfl ?_; apply Exists.intro; refine ⟨?_, ?_⟩
       ·rintro w ⟨r0, r1, r2⟩; go_simp; try with_reducible rfl
       simp only [Act.put, List.setIfInBounds_toArray, List.set_cons_succ, List.set_cons_zero]
       refine Lim.stepE 3 (fun _ => trivial) rfl (by kernel_rfl) rfl (fun K hK => ?_)   -- E store
       obtain ⟨z0, z1⟩ := box_cell HKd.out.m (cs := #[.slice none 0 0]) (t := 41) (p := q4) (j := 0) (by simp) rfl
       go_simp
       have HKe := Lib.hid (MemG.putX (X1 := [_, _, _]) HKd.out 0 (.slice ga G.length gc))
       have hC2 : (fun W => W.cell? ⟨q7, 0, none⟩ = some (.slice ga G.length gc) ∧ W.cell? ⟨q10, 0, none⟩ = some (.slice fa F.length fc) ∧ W.cell? ⟨q10, 1, none⟩ = some (.slice ma Mm.length mc)) (W6.setCell ⟨q4, 0, none⟩ (.slice ga G.length gc)) := ⟨(box_cell HKe.out.m (cs := #[.slice ga G.length gc]) (t := 41) (p := q7) (j := 0) (by simp) rfl).1, (box_cell HKe.out.m (cs := #[.slice fa F.length fc, .slice ma Mm.length mc]) (t := 43) (p := q10) (j := 0) (by simp) rfl).1, (box_cell HKe.out.m (cs := #[.slice fa F.length fc, .slice ma Mm.length mc]) (t := 43) (p := q10) (j := 1) (by simp) rfl).1⟩
       refine hK _ _ hC2 ?_
       clear hK z0 z1 HKd hC
       generalize W6.setCell ⟨q4, 0, none⟩ (.slice ga G.length gc) = W7 at HKe hC2 ⊢
       simp only [Act.put, List.setIfInBounds_toArray, List.set_cons_succ, List.set_cons_zero]
       refine Lim.stepE 4 (fun _ => trivial) rfl (by kernel_rfl) rfl (fun K hK => ?_)   -- E store
       obtain ⟨z0, z1⟩ := box_cell HKe.out.m (cs := #[.slice none 0 0, .slice none 0 0]) (t := 43) (p := q5) (j := 0) (by simp) rfl
       obtain ⟨z2, z3⟩ := box_cell HKe.out.m (cs := #[.slice none 0 0, .slice none 0 0]) (t := 43) (p := q5) (j := 1) (by simp) rfl
       go_simp
       have HKf := Lib.hid (MemG.putX (X1 := [_, _]) (MemG.putX (X1 := [_, _]) HKe.out 0 (.slice fa F.length fc)) 1 (.slice ma Mm.length mc))
       have hC3 : (fun W => W.cell? ⟨q7, 0, none⟩ = some (.slice ga G.length gc) ∧ W.cell? ⟨q10, 0, none⟩ = some (.slice fa F.length fc) ∧ W.cell? ⟨q10, 1, none⟩ = some (.slice ma Mm.length mc)) ((W7.setCell ⟨q5, 0, none⟩ (.slice fa F.length fc)).setCell ⟨q5, 1, none⟩ (.slice ma Mm.length mc)) := ⟨(box_cell HKf.out.m (cs := #[.slice ga G.length gc]) (t := 41) (p := q7) (j := 0) (by simp) rfl).1, (box_cell HKf.out.m (cs := #[.slice fa F.length fc, .slice ma Mm.length mc]) (t := 43) (p := q10) (j := 0) (by simp) rfl).1, (box_cell HKf.out.m (cs := #[.slice fa F.length fc, .slice ma Mm.length mc]) (t := 43) (p := q10) (j := 1) (by simp) rfl).1⟩
       refine hK _ _ hC3 ?_
       clear hK z0 z1 z2 z3 HKe hC2
       generalize ((W7.setCell ⟨q5, 0, none⟩ (.slice fa F.length fc)).setCell ⟨q5, 1, none⟩ (.slice ma Mm.length mc)) = W8 at HKf hC3 ⊢
       simp only [Act.put, List.setIfInBounds_toArray, List.set_cons_succ, List.set_cons_zero]
       refine Lim.stepR 5 (fun _ => trivial) rfl (by kernel_rfl) (fun _ _ _ _ h => h) hC3 rfl ?_; apply Exists.intro; refine ⟨?_, ?_⟩
       ·rintro w ⟨r0, r1, r2⟩; go_simp; try with_reducible rfl
       simp only [Act.put, List.setIfInBounds_toArray, List.set_cons_succ, List.set_cons_zero]
       refine Lim.stepD (by kernel_rfl) ?_
       clear hC3
       go_wp2
       obtain ⟨k4, -⟩ := box_cell HKf.out.m (cs := #[.slice ga G.length gc]) (t := 41) (p := q4) (j := 0) (by simp) rfl
       obtain ⟨k5, -⟩ := box_cell HKf.out.m (cs := #[.slice fa F.length fc, .slice ma Mm.length mc]) (t := 43) (p := q5) (j := 0) (by simp) rfl
       obtain ⟨k6, -⟩ := box_cell HKf.out.m (cs := #[.slice fa F.length fc, .slice ma Mm.length mc]) (t := 43) (p := q5) (j := 1) (by simp) rfl
       refine bodyPost_ret (v := .tuple #[.agg #[.slice ga G.length gc], .agg #[.slice fa F.length fc, .slice ma Mm.length mc], .slice la A.length lc]) ?_ rfl ?_
       ·exact results_cct (p := 4) (q := 5) (u := 6) (ty := 41) (tz := 43) rfl _ _ q4 q5 _ _ rfl rfl (run_loadVar_mid W8 q4 0 41 [.slice ga G.length gc] _ (one_range k4) Try.underlying41 rfl infoRoll) (run_loadVar_mid W8 q5 0 43 [.slice fa F.length fc, .slice ma Mm.length mc] _ (two_range k5 k6) Try.underlying43 rfl infoFinds)
       have h9 := HF.out
       have hlg := HG.out.lg
       have hHK := HKf.out
       have hEX := HEX.out
       obtain ⟨hf1, hf2, hf3, hf4⟩ := h9
       refine ⟨_, _, _, _, ⟨G, F, Mm⟩, T, L, c2, rfl, ⟨?_, ?_, ?_, ?_⟩, hHK.m.dk, ?_, hHK.g, ?_, ?_⟩
       ·show 1 ≤ G.length ∧ G.length ≤ M
        have := HN.out
        omega
       ·show GapsTo G.length G T
        rw [hlg]; exact HG.out
       ·show FindTo T (G.length + 1) L F Mm
        rw [hlg, ← hEX]; exact hf1
       ·rcases hf2 with h | h <;> omega
       ·have h1 := HC2.out
        have h2 := HC0.out
        omega
       ·rw [← hf4, ← hf3]
        intro r hr
        simp only [List.mem_cons, List.not_mem_nil, or_false] at hr
        rcases hr with rfl | rfl | rfl | rfl
        ·exact hHK.m.q _ (by simp)
        ·exact hHK.m.q _ (by simp)
        ·exact hHK.m.q _ (by simp)
        ·exact hHK.m.q _ (by simp)
       ·rw [← hf4, ← hf3]
        exact ((hHK.less (fun _ h => h) (.cons_cons _ (.cons_cons _ (.cons _ (.cons_cons _ (.cons_cons _ .slnil))))) (List.Sublist.refl _)).permQ ((List.Perm.swap _ _ _).trans (.cons _ (.cons _ (List.Perm.swap _ _ _))))).m.qq
end Go.Proofs.Ytobmhamdkngehaa
