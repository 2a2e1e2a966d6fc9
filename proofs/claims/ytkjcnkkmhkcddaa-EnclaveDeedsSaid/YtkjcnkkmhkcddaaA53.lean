/-
  Parts of the proof, in the order in which they build: EyH.
-/
import Derived.Deep.CutRange
import Derived.Test.YtkjcnkkmhkcddaaA50
import Derived.Test.YtkjcnkkmhkcddaaA52
set_option linter.unusedVariables false
set_option linter.unusedSimpArgs false
namespace Go.Proofs.Ytkjcnkkmhkcddaa
open Go.RowKit Go.Shelf
open Lim

attribute [local go_sem] Oper.semAt_some

/-- the answer of a deed as data: the error, the width, and the owners -/
def IsGivL (wd : Int) (os : List Int) (i er wd' : Int) (l : List Int) : Prop := l.length ≤ 1000 ∧ ((errE wd os ≠ 0 ∧ er = errE wd os ∧ wd' = 0 ∧ l = []) ∨ (errE wd os = 0 ∧ ∃ r k, IsReg ⟨wd.toNat, os⟩ r ∧ IsMany ⟨wd.toNat, os⟩ r k ∧ ((inB i 0 ((k : Int) - 1) = false ∧ er = 2 ∧ wd' = 0 ∧ l = []) ∨
 (inB i 0 ((k : Int) - 1) = true ∧ ∃ x, IsAr ⟨wd.toNat, os⟩ r i.toNat k x ∧ ((x = -1 ∧ er = 10 ∧ wd' = 0 ∧ l = []) ∨ (x ≠ -1 ∧ er = 0 ∧ wd' = wd ∧ ∃ O, IsGiv ⟨wd.toNat, os⟩ r (fun j => if j = i.toNat then x else -1) O os.length ∧ l = (List.range os.length).map O))))))
theorem IsGiv.unique {m : Mp} {r r' : Nat → Nat} {i : Nat} {x : Int} {O O' : Nat → Int} {k : Nat} (e : ∀ p, p < m.n → r p = r' p) (hT : IsMany m r k) (hx : IsAr m r i k x) (h : IsGiv m r (fun j => if j = i then x else -1) O m.n) (h' : IsGiv m r' (fun j => if j = i then x else -1) O' m.n) : ∀ p, p < m.n → O p = O' p := by
 intro p hp
 by_cases h0 : r p = i
 ·rcases hx with ⟨rfl, -⟩ | ⟨a, rfl, ha, -⟩
  ·rw [h.1 p hp (by show (if r p = i then (-1 : Int) else -1) = -1; split <;> rfl), h'.1 p hp (by show (if r' p = i then (-1 : Int) else -1) = -1; split <;> rfl)]
  ·obtain ⟨q, hq, hqa⟩ := hT.ex a ha
   rw [h.2.1 p hp q hq (by show (if r p = i then (a : Int) else -1) = _; rw [if_pos h0, hqa]), h'.2.1 p hp q hq (by show (if r' p = i then (a : Int) else -1) = _; rw [if_pos (by rw [← e p hp]; exact h0), ← e q hq, hqa])]
 ·rw [h.1 p hp (if_neg h0), h'.1 p hp (if_neg (by rw [← e p hp]; exact h0))]
theorem IsGivL.unique {wd : Int} {os : List Int} {i er wd' er2 wd2 : Int} {l l2 : List Int} (h : IsGivL wd os i er wd' l) (h' : IsGivL wd os i er2 wd2 l2) : er = er2 ∧ wd' = wd2 ∧ l = l2 := by
 obtain ⟨-, ⟨he, rfl, rfl, rfl⟩ | ⟨he, r, k, hr, hk, h⟩⟩ := h
 ·obtain ⟨-, ⟨-, rfl, rfl, rfl⟩ | ⟨he', -⟩⟩ := h'
  ·exact ⟨rfl, rfl, rfl⟩
  ·exact absurd he' he
 ·obtain ⟨-, ⟨he', -⟩ | ⟨-, r', k', hr', hk', h'⟩⟩ := h'
  ·exact absurd he he'
  ·obtain ⟨hrr, rfl⟩ := reg_same hr hr' hk hk'
   have hm := (errE_ok he).1
   rcases h with ⟨h1, rfl, rfl, rfl⟩ | ⟨h1, x, hx, h⟩
   ·rcases h' with ⟨-, rfl, rfl, rfl⟩ | ⟨h2, -⟩
    ·exact ⟨rfl, rfl, rfl⟩
    ·rw [h1] at h2; cases h2
   ·rcases h' with ⟨h2, -⟩ | ⟨-, x', hx', h'⟩
    ·rw [h1] at h2; cases h2
    have hi : i.toNat < k := by have := inB_iff.1 h1; omega
    obtain rfl : x = x' := hx.unique hm hk.ex (hx'.congr (fun p hp => (hrr p hp).symm))
    rcases h with ⟨h3, rfl, rfl, rfl⟩ | ⟨h3, rfl, rfl, O, hO, rfl⟩
    ·rcases h' with ⟨-, rfl, rfl, rfl⟩ | ⟨h4, -⟩
     ·exact ⟨rfl, rfl, rfl⟩
     ·exact absurd h3 h4
    ·rcases h' with ⟨h4, -⟩ | ⟨-, rfl, rfl, O', hO', rfl⟩
     ·exact absurd h4 h3
     ·exact ⟨rfl, rfl, List.map_congr_left fun p hp => IsGiv.unique (m := ⟨_, os⟩) hrr hk hx hO hO' p (List.mem_range.1 hp)⟩
theorem GveAns.form {wd : Int} {os : List Int} {i : Int} {w w' : World} {e : Ending} (h : GveAns wd os i w e w') : ∃ (v : Value) (er wd' : Int) (l : List Int), e = .returned (.tuple #[.agg #[.int .i64 wd', v], .int .i64 er]) ∧ IsGivL wd os i er wd' l ∧ RS w'.heap.size w' v l.length (ints l) ∧ Below w.heap.size w w' := by
 obtain ⟨hb, ⟨he, rfl⟩ | ⟨he, r, k, hr, hk, h⟩⟩ := h
 ·exact ⟨_, _, _, [], rfl, ⟨by simp, .inl ⟨he, rfl, rfl, rfl⟩⟩, nilR _, hb⟩
 ·rcases h with ⟨h1, rfl⟩ | ⟨h1, x, hx, ⟨h2, rfl⟩ | ⟨h2, v, O, rfl, hO, ho⟩⟩
  ·exact ⟨_, _, _, [], rfl, ⟨by simp, .inr ⟨he, r, k, hr, hk, .inl ⟨h1, rfl, rfl, rfl⟩⟩⟩, nilR _, hb⟩
  ·exact ⟨_, _, _, [], rfl, ⟨by simp, .inr ⟨he, r, k, hr, hk, .inr ⟨h1, x, hx, .inl ⟨h2, rfl, rfl, rfl⟩⟩⟩⟩, nilR _, hb⟩
  ·have hn : os.length ≤ 100 := (errE_ok he).1.n1
   have hl : ((List.range os.length).map O).length = os.length := by simp
   exact ⟨v, _, _, (List.range os.length).map O, rfl, ⟨by rw [hl]; omega, .inr ⟨he, r, k, hr, hk, .inr ⟨h1, x, hx, .inr ⟨h2, rfl, rfl, O, hO, rfl⟩⟩⟩⟩, by rw [hl]; exact RS.of_owns ho, hb⟩
/-- the map without enclaves as data: the error, the width, the owners, and the plots that are given -/
def IsClrL (wd : Int) (os : List Int) (er wd' : Int) (l ps : List Int) : Prop := l.length ≤ 1000 ∧ ps.length ≤ 1000 ∧ ((errE wd os ≠ 0 ∧ er = errE wd os ∧ wd' = 0 ∧ l = [] ∧ ps = []) ∨ (errE wd os = 0 ∧ er = 0 ∧ wd' = wd ∧ ∃ O : Nat → Int, (∀ r, IsReg ⟨wd.toNat, os⟩ r → ∀ p o, p < os.length → Hull ⟨wd.toNat, os⟩ r p o → O p = o) ∧ l = (List.range os.length).map O ∧ ps = (plotL O (fun p => os.getD p 0) os.length).map Int.ofNat))
/-- .. where each plot lies in, or within, an outermost region -/
def HasHull (wd : Int) (os : List Int) : Prop := errE wd os = 0 → ∃ r, IsReg ⟨wd.toNat, os⟩ r ∧ ∀ p, p < os.length → ∃ o, Hull ⟨wd.toNat, os⟩ r p o
theorem plotL_congr {O O' own : Nat → Int} : ∀ n, (∀ p, p < n → O p = O' p) → plotL O own n = plotL O' own n
 | 0, _ => rfl
 | n + 1, h => by rw [plotL, plotL, plotL_congr n (fun p hp => h p (by omega)), h n (by omega)]
theorem IsClrL.unique {wd : Int} {os : List Int} {er wd' er2 wd2 : Int} {l l2 ps ps2 : List Int} (hh : HasHull wd os) (h : IsClrL wd os er wd' l ps) (h' : IsClrL wd os er2 wd2 l2 ps2) : er = er2 ∧ wd' = wd2 ∧ l = l2 ∧ ps = ps2 := by
 obtain ⟨-, -, ⟨he, rfl, rfl, rfl, rfl⟩ | ⟨he, rfl, rfl, O, hO, rfl, rfl⟩⟩ := h
 ·obtain ⟨-, -, ⟨-, rfl, rfl, rfl, rfl⟩ | ⟨he', -⟩⟩ := h'
  ·exact ⟨rfl, rfl, rfl, rfl⟩
  ·exact absurd he' he
 ·obtain ⟨-, -, ⟨he', -⟩ | ⟨-, rfl, rfl, O', hO', rfl, rfl⟩⟩ := h'
  ·exact absurd he he'
  ·obtain ⟨r, hr, hr2⟩ := hh he
   have e : ∀ p, p < os.length → O p = O' p := fun p hp => by
    obtain ⟨o, ho⟩ := hr2 p hp
    rw [hO r hr p o hp ho, hO' r hr p o hp ho]
   exact ⟨rfl, rfl, List.map_congr_left fun p hp => e p (List.mem_range.1 hp), by rw [plotL_congr _ e]⟩
theorem plotL_len (O own : Nat → Int) (n : Nat) : ((plotL O own n).map Int.ofNat).length = (plotL O own n).length := by simp
theorem RClAns.form {wd : Int} {os : List Int} {w w' : World} {e : Ending} (h : RClAns wd os w e w') : ∃ (v u : Value) (er wd' : Int) (l ps : List Int), e = .returned (.tuple #[.agg #[.int .i64 wd', v], u, .int .i64 er]) ∧ IsClrL wd os er wd' l ps ∧ w'.ownsRow w.heap.size 3 1 v l.length (ints l) ∧ w'.ownsRow w.heap.size 3 1 u ps.length (ints ps) ∧ Below w.heap.size w w' := by
 obtain ⟨hb, ⟨he, rfl⟩ | ⟨he, O, v, pv, hO, rfl, h1, h2⟩⟩ := h
 ·exact ⟨_, _, _, _, [], [], rfl, ⟨by simp, by simp, .inl ⟨he, rfl, rfl, rfl, rfl⟩⟩, World.ownsRow_nil _ _ _ _, World.ownsRow_nil _ _ _ _, hb⟩
 ·have hn : os.length ≤ 100 := (errE_ok he).1.n1
  have hl : ((List.range os.length).map O).length = os.length := by simp
  have hp := plotL_le O (fun p => os.getD p 0) os.length
  exact ⟨v, pv, _, _, (List.range os.length).map O, _, rfl, ⟨by rw [hl]; omega, by rw [plotL_len]; omega, .inr ⟨he, rfl, rfl, O, hO, rfl, rfl⟩⟩, by rw [hl]; exact h1, by rw [plotL_len]; exact h2, hb⟩
theorem ClrAns.form {wd : Int} {os : List Int} {w w' : World} {e : Ending} (h : ClrAns wd os w e w') : HasHull wd os ∧ ∃ (v u : Value) (er wd' : Int) (l ps : List Int), e = .returned (.tuple #[.agg #[.int .i64 wd', v], u, .int .i64 er]) ∧ IsClrL wd os er wd' l ps ∧ w'.ownsRow w.heap.size 3 1 v l.length (ints l) ∧ w'.ownsRow w.heap.size 3 1 u ps.length (ints ps) ∧ Below w.heap.size w w' := by
 obtain ⟨hb, ⟨he, rfl⟩ | ⟨he, r, k, T, O, v, pv, hr, hk, hT, hO, rfl, h1, h2⟩⟩ := h
 ·exact ⟨fun h => absurd h he, _, _, _, _, [], [], rfl, ⟨by simp, by simp, .inl ⟨he, rfl, rfl, rfl, rfl⟩⟩, World.ownsRow_nil _ _ _ _, World.ownsRow_nil _ _ _ _, hb⟩
 ·have hn : os.length ≤ 100 := (errE_ok he).1.n1
  have hm := (errE_ok he).1
  have hl : ((List.range os.length).map O).length = os.length := by simp
  have hp := plotL_le O (fun p => os.getD p 0) os.length
  have hH : ∀ p, p < os.length → Hull ⟨wd.toNat, os⟩ r p (O p) := fun p hp => giv_hull (m := ⟨wd.toNat, os⟩) hr hk hT hO hp
  refine ⟨fun _ => ⟨r, hr, fun p hp => ⟨_, hH p hp⟩⟩, v, pv, _, _, (List.range os.length).map O, _, rfl, ⟨by rw [hl]; omega, by rw [plotL_len]; omega, .inr ⟨he, rfl, rfl, O, ?_, rfl, rfl⟩⟩, by rw [hl]; exact h1, by rw [plotL_len]; exact h2, hb⟩
  intro r' hr' p o hp ho
  exact (hH p hp).unique hm hr hp (ho.congr (hr'.unique hr) hp)
set_option maxRecDepth 20000 in
set_option maxHeartbeats 8000000 in
theorem deedsl_any {B : Nat} {wd : Int} {ov : Value} {os : List Int} {i : Int} {w : World} (hB : B ≤ w.heap.size) (hv : RS B w ov os.length (ints os)) :
  Calls Try.prog 3 #[.agg #[.int .i64 wd, ov], .int .i64 i] w fun e w' => e = .returned (.bool true) ∧ Below w.heap.size w w' := by
 have HV := Lib.hid (And.intro hB hv)
 obtain ⟨oa, oc, rfl, -⟩ := hv
 have f0 : (w.alloc (.cells #[.int .i64 wd, .slice oa os.length oc] 24)).cell? ⟨w.heap.size, 0, none⟩ = some (.int .i64 wd) := by simp [go_sem]
 have f1 : (w.alloc (.cells #[.int .i64 wd, .slice oa os.length oc] 24)).cell? ⟨w.heap.size, 1, none⟩ = some (.slice oa os.length oc) := by simp [go_sem]
 have HB := Lib.hid ((Below.refl w.heap.size w).alloc (Nat.le_refl _) (.cells #[.int .i64 wd, .slice oa os.length oc] 24))
 clear hB
 obtain ⟨n, hn⟩ : ∃ n, n = os.length := ⟨_, rfl⟩
 have HN := Lib.hid hn
 rw [← hn] at f0 f1 HB ⊢
 clear hn
 go_enter Try.func3, Try.ntmps3
 go_wp2_with fail
 generalize w.alloc (.cells #[.int .i64 wd, .slice oa n oc] 24) = w1 at HB f0 f1 ⊢
 obtain ⟨q4, hq4⟩ : ∃ q, q = w.heap.size := ⟨_, rfl⟩
 rw [← hq4] at f0 f1 ⊢
 clear hq4
 refine (great_any _).mono ?_
 rintro e w2 ⟨rfl, rfl⟩
 cases hg : greatB n with
 | true =>
  clear hg
  go_wp2_with fail
  refine (awake_any _).mono ?_
  rintro e w3 ⟨rfl, hb⟩
  have HB3 := Lib.hid (HB.out.trans (hb.mono HB.out.size))
  clear hb
  go_wp2
  go_ret
  exact ⟨rfl, HB3.out⟩
 | false =>
 have hn110 : n ≤ 110 := by
  unfold greatB at hg
  simp at hg
  omega
 clear hg
 have HQ4 : Hid (q4 < w2.drew.heap.size) := Lib.hid (World.block_lt_of_cell? _ _ f0)
 have HCA : Hid (∀ W, Below w2.drew.heap.size w2.drew W → Calls Try.prog 13 #[.agg #[.int .i64 wd, .slice oa n oc]] W fun e w' => ∃ v, e = .returned (.agg #[.int .i64 wd, v]) ∧ w'.ownsRow W.heap.size 3 1 v os.length (ints os) ∧ Below W.heap.size W w') := Lib.hid fun W hW => by
  have hw : Below w.heap.size w W := HB.out.drew.trans (hW.mono HB.out.drew.size)
  rw [HN.out]; exact lClone_any (by rw [← HN.out]; omega) (Nat.le_trans HV.out.1 hw.size) (HV.out.2.below (hw.mono HV.out.1))
 have HCB : Hid (∀ W, Below w2.drew.heap.size w2.drew W → Calls Try.prog 14 #[.agg #[.int .i64 wd, .slice oa n oc]] W fun e w' => ∃ v, e = .returned (.agg #[.int .i64 wd, v]) ∧ w'.ownsRow W.heap.size 3 1 v os.length (ints os) ∧ Below W.heap.size W w') := Lib.hid fun W hW => by
  have hw : Below w.heap.size w W := HB.out.drew.trans (hW.mono HB.out.drew.size)
  rw [HN.out]; exact lMap_any (by rw [← HN.out]; omega) (Nat.le_trans HV.out.1 hw.size) (HV.out.2.below (hw.mono HV.out.1))
 go_upto_region 3 with (fail)
 have hC : (fun W => W.cell? ⟨q4, 0, none⟩ = some (.int .i64 wd) ∧ W.cell? ⟨q4, 1, none⟩ = some (.slice oa n oc)) w2.drew := ⟨f0, f1⟩
 refine Lim.regC' (fun W => W.cell? ⟨q4, 0, none⟩ = some (.int .i64 wd) ∧ W.cell? ⟨q4, 1, none⟩ = some (.slice oa n oc)) [] #[false, false, false, false, false, false, false, false] (by kernel_rfl) rfl ?_
 refine Lim.stepR 0 (fun _ => trivial) rfl (by kernel_rfl) (fun _ _ _ _ h => h) hC rfl ?_; apply Exists.intro; refine ⟨?_, ?_⟩
 ·rintro w ⟨r0, r1⟩; go_simp; try with_reducible rfl
 simp only [Act.put, List.setIfInBounds_toArray, List.set_cons_succ, List.set_cons_zero]
 refine Lim.stepR 2 (fun _ => trivial) rfl (by kernel_rfl) (fun _ _ _ _ h => h) hC rfl ?_; apply Exists.intro; refine ⟨?_, ?_⟩
 ·rintro w ⟨r0, r1⟩; go_simp; try with_reducible rfl
 simp only [Act.put, List.setIfInBounds_toArray, List.set_cons_succ, List.set_cons_zero]
 clear hC
 refine Lim.parC [1, 3, 4, 5, 6, 7] (fun done a W => ∃ xA xB yA yB, a = { tmps := #[.agg #[.int .i64 wd, .slice oa n oc], .int .i64 i, .pointer (some ⟨q4, 0, none⟩), undef, .bool false, yA, yB, undef, undef, undef, undef, undef, undef, .pointer (some ⟨q4, 1, none⟩), .slice oa n oc, .bool false, undef, .agg #[.int .i64 wd, .slice oa n oc], xA, .agg #[.int .i64 wd, .slice oa n oc], xB, undef, undef, undef, undef, undef, undef, undef, undef, undef, undef, undef, undef, undef, undef, undef, undef, undef, undef, undef, undef, undef, undef, undef, undef, undef, undef, undef, undef, undef, undef, undef, undef, undef, undef, undef, undef, undef, undef, undef, undef, undef, undef, undef, undef, undef, undef, undef, undef, undef, undef, undef, undef, undef, undef, undef, undef, undef, undef, undef, undef, undef, undef, undef, undef, undef, undef, undef, undef, undef, undef, undef, undef], defers := [] } ∧ CloP w2.drew wd os [] (done 1) (done 3) (false) (done 4) (done 5) (done 6) (done 7) xA xB (.slice none 0 0) yA yB W ∧ (fun W => W.cell? ⟨q4, 0, none⟩ = some (.int .i64 wd) ∧ W.cell? ⟨q4, 1, none⟩ = some (.slice oa n oc)) W) (fun _ => trivial) (by kernel_rfl) rfl rfl ?hC ?step ?fin ⟨_, _, _, _, rfl, ?st, ⟨f0, f1⟩⟩
 case st => exact ⟨(Below.refl _ _), fun h => (by cases h), fun h => (by cases h), fun h => (by cases h), fun h => (by cases h), fun h => (by cases h), fun h => (by cases h), fun h => (by cases h)⟩
 case hC => rintro done a W ⟨_, _, _, _, -, -, hc⟩; exact hc
 case step =>
  intro i o hi ho done a W hd hdep hS K hK
  obtain ⟨xA, xB, yA, yB, rfl, H, hc⟩ := hS
  obtain ⟨hc0, hc1⟩ := hc
  simp only [List.mem_cons, List.not_mem_nil, or_false] at hi
  rcases hi with rfl | rfl | rfl | rfl | rfl | rfl
  ·cases ho
   clear hdep
   go_simp
   refine ⟨rfl, (callsIn_wide.2 (HCA.out W H.be)).mono ?_⟩
   rintro e W' ⟨v, rfl, ho, hb⟩
   refine hK _ _ ?_
   exact ⟨_, xB, yA, yB, rfl, H.callA hd hb ho, ⟨hb.on hc0, hb.on hc1⟩⟩
  ·cases ho
   clear hdep
   go_simp
   refine ⟨rfl, (callsIn_wide.2 (HCB.out W H.be)).mono ?_⟩
   rintro e W' ⟨v, rfl, ho, hb⟩
   refine hK _ _ ?_
   exact ⟨xA, _, yA, yB, rfl, H.callB hd hb ho, ⟨hb.on hc0, hb.on hc1⟩⟩
  ·cases ho
   clear hdep
   go_simp
   refine hK _ _ ?_
   have hb : Below W.heap.size W (W.alloc (.cells #[.int .i64 0, .slice none 0 0] 24)) := (Below.refl _ W).alloc (Nat.le_refl _) _
   exact ⟨xA, xB, _, yB, rfl, H.boxA hd _ _, ⟨hb.on hc0, hb.on hc1⟩⟩
  ·cases ho
   clear hdep
   go_simp
   refine hK _ _ ?_
   have hb : Below W.heap.size W (W.alloc (.cells #[.int .i64 0, .slice none 0 0] 28)) := (Below.refl _ W).alloc (Nat.le_refl _) _
   exact ⟨xA, xB, yA, _, rfl, H.boxB hd _ _, ⟨hb.on hc0, hb.on hc1⟩⟩
  ·cases ho
   have hcl := hdep 1 (by kernel_rfl) (by simp)
   have hl := hdep 4 (by kernel_rfl) (by simp)
   clear hdep
   obtain ⟨v, rfl, ho⟩ := H.cA hcl
   obtain ⟨ga, gc, rfl, -⟩ := RS.of_owns ho
   obtain ⟨qb, b0, b1, rfl, hge, hq, -⟩ := H.aA hl
   obtain ⟨⟨z0, z1⟩, z2, z3⟩ := two_cells hq
   have HPU := Lib.hid ((H.putA (c := .int .i64 wd) (d := .slice ga os.length gc) hcl hl hq hge).resolve_right (fun h => h rfl))
   have HNQ : Hid (q4 ≠ qb) := Lib.hid (by have h1 : q4 < w2.drew.heap.size := HQ4.out; omega)
   have HGE := Lib.hid hge
   clear ho hq hge
   go_simp
   refine hK _ _ ?_
   exact ⟨_, xB, _, yB, rfl, HPU.out, ⟨(setCell_far _ _ HNQ.out.symm).trans ((setCell_far _ _ HNQ.out.symm).trans hc0), (setCell_far _ _ HNQ.out.symm).trans ((setCell_far _ _ HNQ.out.symm).trans hc1)⟩⟩
  ·cases ho
   have hcl := hdep 3 (by kernel_rfl) (by simp)
   have hl := hdep 5 (by kernel_rfl) (by simp)
   clear hdep
   obtain ⟨v, rfl, ho⟩ := H.cB hcl
   obtain ⟨ga, gc, rfl, -⟩ := RS.of_owns ho
   obtain ⟨qb, b0, b1, rfl, hge, hq, -⟩ := H.aB hl
   obtain ⟨⟨z0, z1⟩, z2, z3⟩ := two_cells hq
   have HPU := Lib.hid ((H.putB (c := .int .i64 wd) (d := .slice ga os.length gc) hcl hl hq hge).resolve_right (fun h => h rfl))
   have HNQ : Hid (q4 ≠ qb) := Lib.hid (by have h1 : q4 < w2.drew.heap.size := HQ4.out; omega)
   have HGE := Lib.hid hge
   clear ho hq hge
   go_simp
   refine hK _ _ ?_
   exact ⟨xA, _, yA, _, rfl, HPU.out, ⟨(setCell_far _ _ HNQ.out.symm).trans ((setCell_far _ _ HNQ.out.symm).trans hc0), (setCell_far _ _ HNQ.out.symm).trans ((setCell_far _ _ HNQ.out.symm).trans hc1)⟩⟩
 case fin =>
  rintro done a W hall ⟨xA, xB, yA, yB, rfl, H, hc⟩
  have D : ∀ i, i ∈ [1, 3, 4, 5, 6, 7] → done i = true := hall
  obtain ⟨v1, rfl, hv1⟩ := H.cA (hall 1 (by simp))
  obtain ⟨v3, rfl, hv3⟩ := H.cB (hall 3 (by simp))
  obtain ⟨q9, a9, b9, rfl, -, hq9, hs9⟩ := H.aA (hall 4 (by simp))
  obtain ⟨q11, a11, b11, rfl, -, hq11, hs11⟩ := H.aB (hall 5 (by simp))
  have e1 := hs9 (hall 6 (by simp))
  have e2 := hs11 (hall 7 (by simp))
  simp only [Value.agg.injEq, Array.mk.injEq, List.cons.injEq, and_true] at e1 e2
  obtain ⟨rfl, rfl⟩ := e1
  obtain ⟨rfl, rfl⟩ := e2
  have hbe := H.be
  obtain ⟨⟨k0, k1⟩, -, -⟩ := two_cells hq9
  obtain ⟨⟨l0, l1⟩, -, -⟩ := two_cells hq11
  obtain ⟨m0, m1⟩ := hc
  clear H hall D hs9 hs11 hq9 hq11
  obtain ⟨g1, c1, rfl, -⟩ := RS.of_owns hv1
  obtain ⟨g3, c3, rfl, -⟩ := RS.of_owns hv3
  have HR1 := Lib.hid (RS.of_owns hv1)
  have HR3 := Lib.hid (RS.of_owns hv3)
  have HB := Lib.hid (HB.out.drew.trans (hbe.mono HB.out.drew.size))
  have H110 : Hid (os.length ≤ 110) := Lib.hid (by rw [← HN.out]; exact hn110)
  obtain rfl : n = os.length := HN.out
  clear hv1 hv3 hbe HCA HCB HN hn110
  obtain ⟨w20, rfl⟩ : ∃ x, x = W := ⟨_, rfl⟩
  have HQ1 := HR1
  have HQ3 := HR3
  have HW20 : Hid (w20.heap.size ≤ w20.heap.size) := Lib.hid (Nat.le_refl _)
  have HKK : Hid (q9 < w20.heap.size ∧ q11 < w20.heap.size ∧ q4 < w20.heap.size) := Lib.hid ⟨World.block_lt_of_cell? _ _ k0, World.block_lt_of_cell? _ _ l0, World.block_lt_of_cell? _ _ m0⟩
  have HWW : Hid (w.heap.size ≤ w20.heap.size) := Lib.hid HB.out.size
  clear HR1 HR3
  go_wp2_with fail
  refine (Give_any (wd := wd) (B := w20.heap.size) i (by have := H110.out; omega) HW20.out HQ1.out).mono ?_
  rintro e w21 h
  obtain ⟨v, er, wd', l, rfl, hi, hr, hb⟩ := h.form
  have HI1 := Lib.hid hi
  have HL1 := Lib.hid hr
  obtain ⟨va, vc, rfl, -⟩ := hr
  clear h hi
  have HB := Lib.hid (HB.out.trans (hb.mono HB.out.size))
  have HQ1 := Lib.hid (HQ1.out.below (hb.mono HW20.out))
  have HQ3 := Lib.hid (HQ3.out.below (hb.mono HW20.out))
  have HW20 := Lib.hid (Nat.le_trans HW20.out hb.size)
  replace k0 := hb.on k0
  replace k1 := hb.on k1
  replace l0 := hb.on l0
  replace l1 := hb.on l1
  replace m0 := hb.on m0
  replace m1 := hb.on m1
  clear hb
  go_upto_region 5 with (fail)
  have hb : Below w21.heap.size w21 (w21.alloc (.cells #[.int .i64 wd', .slice va l.length vc] 24)) := (Below.refl _ _).alloc (Nat.le_refl _) _
  have n0 : (w21.alloc (.cells #[.int .i64 wd', .slice va l.length vc] 24)).cell? ⟨w21.heap.size, 0, none⟩ = some (.int .i64 wd') := by simp [go_sem]
  have n1 : (w21.alloc (.cells #[.int .i64 wd', .slice va l.length vc] 24)).cell? ⟨w21.heap.size, 1, none⟩ = some (.slice va l.length vc) := by simp [go_sem]
  have n2 : (w21.alloc (.cells #[.int .i64 wd', .slice va l.length vc] 24)).frozen? ⟨w21.heap.size, 0, none⟩ = false := by simp [go_sem]
  have n3 : (w21.alloc (.cells #[.int .i64 wd', .slice va l.length vc] 24)).frozen? ⟨w21.heap.size, 1, none⟩ = false := by simp [go_sem]
  generalize w21.alloc (.cells #[.int .i64 wd', .slice va l.length vc] 24) = w22 at hb n0 n1 n2 n3 ⊢
  obtain ⟨q7, hq⟩ : ∃ q, q = w21.heap.size := ⟨_, rfl⟩
  rw [← hq] at n0 n1 n2 n3 ⊢
  have HQ7 : Hid (w20.heap.size ≤ q7 ∧ q7 < w22.heap.size) := Lib.hid ⟨by rw [hq]; exact HW20.out, by have := World.block_lt_of_cell? _ _ n0; exact this⟩
  clear hq
  have HL1 := Lib.hid (RS.on HL1.out hb)
  have HB := Lib.hid (HB.out.trans (hb.mono HB.out.size))
  have HQ1 := Lib.hid (HQ1.out.below (hb.mono HW20.out))
  have HQ3 := Lib.hid (HQ3.out.below (hb.mono HW20.out))
  have HW20 := Lib.hid (Nat.le_trans HW20.out hb.size)
  replace k0 := hb.on k0
  replace k1 := hb.on k1
  replace l0 := hb.on l0
  replace l1 := hb.on l1
  replace m0 := hb.on m0
  replace m1 := hb.on m1
  clear hb
  go_wp2_with fail
  refine (rGive_any (wd := wd) (B := w20.heap.size) i (by have := H110.out; omega) HW20.out HQ3.out).mono ?_
  rintro e w23 h
  obtain ⟨v, er2, wd2, l2, rfl, hi, hr, hb⟩ := h.form
  obtain ⟨rfl, rfl, rfl⟩ := HI1.out.unique hi
  have HL2 := Lib.hid hr
  obtain ⟨ua, uc, rfl, -⟩ := hr
  clear h hi
  have HQ7 : Hid (w20.heap.size ≤ q7 ∧ q7 < w23.heap.size) := Lib.hid ⟨HQ7.out.1, Nat.lt_of_lt_of_le HQ7.out.2 hb.size⟩
  have HL1 := Lib.hid (RS.on HL1.out hb)
  have HB := Lib.hid (HB.out.trans (hb.mono HB.out.size))
  have HQ1 := Lib.hid (HQ1.out.below (hb.mono HW20.out))
  have HQ3 := Lib.hid (HQ3.out.below (hb.mono HW20.out))
  have HW20 := Lib.hid (Nat.le_trans HW20.out hb.size)
  replace n2 := frozen_on hb n0 n2
  replace n3 := frozen_on hb n1 n3
  replace k0 := hb.on k0
  replace k1 := hb.on k1
  replace l0 := hb.on l0
  replace l1 := hb.on l1
  replace m0 := hb.on m0
  replace m1 := hb.on m1
  replace n0 := hb.on n0
  replace n1 := hb.on n1
  clear hb
  go_upto_region 6 with (fail)
  have hb : Below w23.heap.size w23 (w23.alloc (.cells #[.int .i64 wd', .slice ua l.length uc] 28)) := (Below.refl _ _).alloc (Nat.le_refl _) _
  have p0 : (w23.alloc (.cells #[.int .i64 wd', .slice ua l.length uc] 28)).cell? ⟨w23.heap.size, 0, none⟩ = some (.int .i64 wd') := by simp [go_sem]
  have p1 : (w23.alloc (.cells #[.int .i64 wd', .slice ua l.length uc] 28)).cell? ⟨w23.heap.size, 1, none⟩ = some (.slice ua l.length uc) := by simp [go_sem]
  have p2 : (w23.alloc (.cells #[.int .i64 wd', .slice ua l.length uc] 28)).frozen? ⟨w23.heap.size, 0, none⟩ = false := by simp [go_sem]
  have p3 : (w23.alloc (.cells #[.int .i64 wd', .slice ua l.length uc] 28)).frozen? ⟨w23.heap.size, 1, none⟩ = false := by simp [go_sem]
  generalize w23.alloc (.cells #[.int .i64 wd', .slice ua l.length uc] 28) = w24 at hb p0 p1 p2 p3 ⊢
  obtain ⟨q8, hq⟩ : ∃ q, q = w23.heap.size := ⟨_, rfl⟩
  rw [← hq] at p0 p1 p2 p3 ⊢
  have HQQ : Hid (w.heap.size ≤ w20.heap.size ∧ w20.heap.size ≤ q7 ∧ q7 < q8) := Lib.hid ⟨HWW.out, HQ7.out.1, by rw [hq]; exact HQ7.out.2⟩
  clear hq HQ7
  have HL1 := Lib.hid (RS.on HL1.out hb)
  have HL2 := Lib.hid (RS.on HL2.out hb)
  have HB := Lib.hid (HB.out.trans (hb.mono HB.out.size))
  have HQ1 := Lib.hid (HQ1.out.below (hb.mono HW20.out))
  have HQ3 := Lib.hid (HQ3.out.below (hb.mono HW20.out))
  have HW20 := Lib.hid (Nat.le_trans HW20.out hb.size)
  replace n2 := frozen_on hb n0 n2
  replace n3 := frozen_on hb n1 n3
  replace k0 := hb.on k0
  replace k1 := hb.on k1
  replace l0 := hb.on l0
  replace l1 := hb.on l1
  replace m0 := hb.on m0
  replace m1 := hb.on m1
  replace n0 := hb.on n0
  replace n1 := hb.on n1
  clear hb
  have d0 : (er != er) = false := by simp
  have d1 : (wd' != wd') = false := by simp
  go_wp2_with fail
  refine (c_eq (l := l) HI1.out.1 rfl HL1.out HL2.out).mono ?_
  rintro e w25 ⟨rfl, hb⟩
  have HB := Lib.hid (HB.out.trans (hb.mono HB.out.size))
  have HQ1 := Lib.hid (HQ1.out.below (hb.mono HW20.out))
  have HQ3 := Lib.hid (HQ3.out.below (hb.mono HW20.out))
  have HW20 := Lib.hid (Nat.le_trans HW20.out hb.size)
  replace n2 := frozen_on hb n0 n2
  replace n3 := frozen_on hb n1 n3
  replace p2 := frozen_on hb p0 p2
  replace p3 := frozen_on hb p1 p3
  replace k0 := hb.on k0
  replace k1 := hb.on k1
  replace l0 := hb.on l0
  replace l1 := hb.on l1
  replace m0 := hb.on m0
  replace m1 := hb.on m1
  replace n0 := hb.on n0
  replace n1 := hb.on n1
  replace p0 := hb.on p0
  replace p1 := hb.on p1
  clear hb
  clear HL1 HL2 HI1 d0 d1
  have HBASE : Hid (q8 < w25.heap.size) := Lib.hid (World.block_lt_of_cell? _ _ p0)
  go_wp2_with fail
  refine (Clear_any (wd := wd) (B := w20.heap.size) (by have := H110.out; omega) HW20.out HQ1.out).mono ?_
  rintro e w26 h
  obtain ⟨hh, v, u, er3, wd3, l3, l4, rfl, hi, ho, hu, hb⟩ := h.form
  have HI3 := Lib.hid (And.intro hh hi)
  have HO3 := Lib.hid ho
  have HU3 := Lib.hid hu
  obtain ⟨xa, xc, rfl, -⟩ := RS.of_owns ho
  obtain ⟨ya, yc, rfl, -⟩ := RS.of_owns hu
  clear h hh hi ho hu
  have HB := Lib.hid (HB.out.trans (hb.mono HB.out.size))
  have HQ1 := Lib.hid (HQ1.out.below (hb.mono HW20.out))
  have HQ3 := Lib.hid (HQ3.out.below (hb.mono HW20.out))
  have HW20 := Lib.hid (Nat.le_trans HW20.out hb.size)
  replace n2 := frozen_on hb n0 n2
  replace n3 := frozen_on hb n1 n3
  replace p2 := frozen_on hb p0 p2
  replace p3 := frozen_on hb p1 p3
  replace k0 := hb.on k0
  replace k1 := hb.on k1
  replace l0 := hb.on l0
  replace l1 := hb.on l1
  replace m0 := hb.on m0
  replace m1 := hb.on m1
  replace n0 := hb.on n0
  replace n1 := hb.on n1
  replace p0 := hb.on p0
  replace p1 := hb.on p1
  clear hb
  go_upto_region 9 with (fail)
  have hs : Sep (fun k => k = q7) w26 ((w26.setCell ⟨q7, 0, none⟩ (.int .i64 wd3)).setCell ⟨q7, 1, none⟩ (.slice xa l3.length xc)) := (Sep.set w26 q7 0 _).trans (Sep.set _ q7 1 _)
  have r0 : ((w26.setCell ⟨q7, 0, none⟩ (.int .i64 wd3)).setCell ⟨q7, 1, none⟩ (.slice xa l3.length xc)).cell? ⟨q7, 0, none⟩ = some (.int .i64 wd3) := by rw [setCell_off _ _ (by omega)]; exact setCell_same _ _ n0
  have r1 : ((w26.setCell ⟨q7, 0, none⟩ (.int .i64 wd3)).setCell ⟨q7, 1, none⟩ (.slice xa l3.length xc)).cell? ⟨q7, 1, none⟩ = some (.slice xa l3.length xc) := setCell_same _ _ (by rw [setCell_off _ _ (by omega)]; exact n1)
  clear n0 n1 n2 n3
  generalize (w26.setCell ⟨q7, 0, none⟩ (.int .i64 wd3)).setCell ⟨q7, 1, none⟩ (.slice xa l3.length xc) = w27 at hs r0 r1 ⊢
  have n0 := r0
  have n1 := r1
  clear r0 r1
  have hb20 : Below w20.heap.size w26 w27 := hs.below HW20.out (fun k hk => by rw [hk]; have := HQQ.out; omega)
  have HB := Lib.hid (HB.out.trans (hs.below HB.out.size (fun k hk => by rw [hk]; have := HQQ.out; omega)))
  have HQ1 := Lib.hid (HQ1.out.below hb20)
  have HQ3 := Lib.hid (HQ3.out.below hb20)
  have HW20 := Lib.hid (Nat.le_trans HW20.out hs.size)
  replace k0 := cell_below hb20 k0 HKK.out.1
  replace k1 := cell_below hb20 k1 HKK.out.1
  replace l0 := cell_below hb20 l0 HKK.out.2.1
  replace l1 := cell_below hb20 l1 HKK.out.2.1
  replace m0 := cell_below hb20 m0 HKK.out.2.2
  replace m1 := cell_below hb20 m1 HKK.out.2.2
  replace p2 := hs.frozen p0 (by have := HQQ.out; omega) p2
  replace p3 := hs.frozen p1 (by have := HQQ.out; omega) p3
  replace p0 := hs.cell p0 (by have := HQQ.out; omega)
  replace p1 := hs.cell p1 (by have := HQQ.out; omega)
  have HO3 := Lib.hid (owns_sep (T := fun k => k = q7) HO3.out hs (fun k hk => by rw [hk]; have := HQQ.out; have := HBASE.out; omega))
  have HU3 := Lib.hid (owns_sep (T := fun k => k = q7) HU3.out hs (fun k hk => by rw [hk]; have := HQQ.out; have := HBASE.out; omega))
  clear hs hb20
  go_wp2_with fail
  refine (rClear_any (wd := wd) (B := w20.heap.size) (by have := H110.out; omega) HW20.out HQ3.out).mono ?_
  rintro e w28 h
  obtain ⟨v, u, er4, wd4, l5, l6, rfl, hi, ho, hu, hb⟩ := h.form
  obtain ⟨rfl, rfl, rfl, rfl⟩ := HI3.out.2.unique HI3.out.1 hi
  have HO4 := Lib.hid ho
  have HU4 := Lib.hid hu
  have HB27 : Hid (q8 < w27.heap.size) := Lib.hid (World.block_lt_of_cell? _ _ p0)
  obtain ⟨za, zc, rfl, -⟩ := RS.of_owns ho
  obtain ⟨ta, tc, rfl, -⟩ := RS.of_owns hu
  clear h hi ho hu
  have HB := Lib.hid (HB.out.trans (hb.mono HB.out.size))
  have HQ1 := Lib.hid (HQ1.out.below (hb.mono HW20.out))
  have HQ3 := Lib.hid (HQ3.out.below (hb.mono HW20.out))
  have HW20 := Lib.hid (Nat.le_trans HW20.out hb.size)
  replace p2 := frozen_on hb p0 p2
  replace p3 := frozen_on hb p1 p3
  replace k0 := hb.on k0
  replace k1 := hb.on k1
  replace l0 := hb.on l0
  replace l1 := hb.on l1
  replace m0 := hb.on m0
  replace m1 := hb.on m1
  replace n0 := hb.on n0
  replace n1 := hb.on n1
  replace p0 := hb.on p0
  replace p1 := hb.on p1
  have HO3 := Lib.hid (owns_below HO3.out hb)
  have HU3 := Lib.hid (owns_below HU3.out hb)
  clear hb
  have HBASE := Lib.hid (And.intro HBASE.out HB27.out)
  go_upto_region 10 with (fail)
  have hs : Sep (fun k => k = q8) w28 ((w28.setCell ⟨q8, 0, none⟩ (.int .i64 wd3)).setCell ⟨q8, 1, none⟩ (.slice za l3.length zc)) := (Sep.set w28 q8 0 _).trans (Sep.set _ q8 1 _)
  have r0 : ((w28.setCell ⟨q8, 0, none⟩ (.int .i64 wd3)).setCell ⟨q8, 1, none⟩ (.slice za l3.length zc)).cell? ⟨q8, 0, none⟩ = some (.int .i64 wd3) := by rw [setCell_off _ _ (by omega)]; exact setCell_same _ _ p0
  have r1 : ((w28.setCell ⟨q8, 0, none⟩ (.int .i64 wd3)).setCell ⟨q8, 1, none⟩ (.slice za l3.length zc)).cell? ⟨q8, 1, none⟩ = some (.slice za l3.length zc) := setCell_same _ _ (by rw [setCell_off _ _ (by omega)]; exact p1)
  clear p0 p1 p2 p3
  generalize (w28.setCell ⟨q8, 0, none⟩ (.int .i64 wd3)).setCell ⟨q8, 1, none⟩ (.slice za l3.length zc) = w29 at hs r0 r1 ⊢
  have p0 := r0
  have p1 := r1
  clear r0 r1
  have hb20 : Below w20.heap.size w28 w29 := hs.below HW20.out (fun k hk => by rw [hk]; have := HQQ.out; omega)
  have HB := Lib.hid (HB.out.trans (hs.below HB.out.size (fun k hk => by rw [hk]; have := HQQ.out; omega)))
  have HQ1 := Lib.hid (HQ1.out.below hb20)
  have HQ3 := Lib.hid (HQ3.out.below hb20)
  have HW20 := Lib.hid (Nat.le_trans HW20.out hs.size)
  replace k0 := cell_below hb20 k0 HKK.out.1
  replace k1 := cell_below hb20 k1 HKK.out.1
  replace l0 := cell_below hb20 l0 HKK.out.2.1
  replace l1 := cell_below hb20 l1 HKK.out.2.1
  replace m0 := cell_below hb20 m0 HKK.out.2.2
  replace m1 := cell_below hb20 m1 HKK.out.2.2
  replace n0 := hs.cell n0 (by have := HQQ.out; omega)
  replace n1 := hs.cell n1 (by have := HQQ.out; omega)
  have HO3 := Lib.hid (owns_sep (T := fun k => k = q8) HO3.out hs (fun k hk => by rw [hk]; have := HQQ.out; have := HBASE.out; omega))
  have HU3 := Lib.hid (owns_sep (T := fun k => k = q8) HU3.out hs (fun k hk => by rw [hk]; have := HQQ.out; have := HBASE.out; omega))
  have HO4 := Lib.hid (owns_sep (T := fun k => k = q8) HO4.out hs (fun k hk => by rw [hk]; have := HQQ.out; have := HBASE.out; omega))
  have HU4 := Lib.hid (owns_sep (T := fun k => k = q8) HU4.out hs (fun k hk => by rw [hk]; have := HQQ.out; have := HBASE.out; omega))
  clear hs hb20
  have d0 : (er3 == er3) = true := by simp
  have d1 : (wd3 == wd3) = true := by simp
  go_wp2_with fail
  refine (c_eq (l := l3) HI3.out.2.1 rfl (RS.of_owns HO3.out) (RS.of_owns HO4.out)).mono ?_
  rintro e w30 ⟨rfl, hb⟩
  have HB := Lib.hid (HB.out.trans (hb.mono HB.out.size))
  have HQ1 := Lib.hid (HQ1.out.below (hb.mono HW20.out))
  have HQ3 := Lib.hid (HQ3.out.below (hb.mono HW20.out))
  have HW20 := Lib.hid (Nat.le_trans HW20.out hb.size)
  replace k0 := hb.on k0
  replace k1 := hb.on k1
  replace l0 := hb.on l0
  replace l1 := hb.on l1
  replace m0 := hb.on m0
  replace m1 := hb.on m1
  replace n0 := hb.on n0
  replace n1 := hb.on n1
  replace p0 := hb.on p0
  replace p1 := hb.on p1
  have HO3 := Lib.hid (owns_below HO3.out hb)
  have HU3 := Lib.hid (owns_below HU3.out hb)
  have HO4 := Lib.hid (owns_below HO4.out hb)
  have HU4 := Lib.hid (owns_below HU4.out hb)
  clear hb
  go_wp2_with fail
  refine (c_eq (l := l4) HI3.out.2.2.1 rfl (RS.of_owns HU3.out) (RS.of_owns HU4.out)).mono ?_
  rintro e w31 ⟨rfl, hb⟩
  have HB := Lib.hid (HB.out.trans (hb.mono HB.out.size))
  have HQ1 := Lib.hid (HQ1.out.below (hb.mono HW20.out))
  have HQ3 := Lib.hid (HQ3.out.below (hb.mono HW20.out))
  have HW20 := Lib.hid (Nat.le_trans HW20.out hb.size)
  replace k0 := hb.on k0
  replace k1 := hb.on k1
  replace l0 := hb.on l0
  replace l1 := hb.on l1
  replace m0 := hb.on m0
  replace m1 := hb.on m1
  replace n0 := hb.on n0
  replace n1 := hb.on n1
  replace p0 := hb.on p0
  replace p1 := hb.on p1
  have HO3 := Lib.hid (owns_below HO3.out hb)
  have HU3 := Lib.hid (owns_below HU3.out hb)
  have HO4 := Lib.hid (owns_below HO4.out hb)
  have HU4 := Lib.hid (owns_below HU4.out hb)
  clear hb
  go_wp2_with fail
  refine (same_any (B1 := w20.heap.size) (B2 := B) (os := os) (by have := H110.out; omega) HW20.out (Nat.le_trans HV.out.1 HB.out.size) HQ1.out (by have h := HV.out.2.below (HB.out.mono HV.out.1); exact h)).mono ?_
  rintro e w32 ⟨rfl, hb⟩
  have HB := Lib.hid (HB.out.trans (hb.mono HB.out.size))
  have HQ1 := Lib.hid (HQ1.out.below (hb.mono HW20.out))
  have HQ3 := Lib.hid (HQ3.out.below (hb.mono HW20.out))
  have HW20 := Lib.hid (Nat.le_trans HW20.out hb.size)
  replace k0 := hb.on k0
  replace k1 := hb.on k1
  replace l0 := hb.on l0
  replace l1 := hb.on l1
  replace m0 := hb.on m0
  replace m1 := hb.on m1
  replace n0 := hb.on n0
  replace n1 := hb.on n1
  replace p0 := hb.on p0
  replace p1 := hb.on p1
  have HO3 := Lib.hid (owns_below HO3.out hb)
  have HU3 := Lib.hid (owns_below HU3.out hb)
  have HO4 := Lib.hid (owns_below HO4.out hb)
  have HU4 := Lib.hid (owns_below HU4.out hb)
  clear hb
  go_wp2_with fail
  refine (awake_any _).mono ?_
  rintro e w33 ⟨rfl, hb⟩
  have HB := Lib.hid (HB.out.trans (hb.mono HB.out.size))
  have HQ1 := Lib.hid (HQ1.out.below (hb.mono HW20.out))
  have HQ3 := Lib.hid (HQ3.out.below (hb.mono HW20.out))
  have HW20 := Lib.hid (Nat.le_trans HW20.out hb.size)
  replace k0 := hb.on k0
  replace k1 := hb.on k1
  replace l0 := hb.on l0
  replace l1 := hb.on l1
  replace m0 := hb.on m0
  replace m1 := hb.on m1
  replace n0 := hb.on n0
  replace n1 := hb.on n1
  replace p0 := hb.on p0
  replace p1 := hb.on p1
  have HO3 := Lib.hid (owns_below HO3.out hb)
  have HU3 := Lib.hid (owns_below HU3.out hb)
  have HO4 := Lib.hid (owns_below HO4.out hb)
  have HU4 := Lib.hid (owns_below HU4.out hb)
  clear hb
  go_wp2
  go_ret
  exact ⟨rfl, HB.out⟩
end Go.Proofs.Ytkjcnkkmhkcddaa
