/-
  Parts of the proof, in the order in which they build: EvN.
-/
import Derived.Test.YtkjcnkkmhkcddaaA22
set_option linter.unusedVariables false
set_option linter.unusedSimpArgs false
namespace Go.Proofs.Ytkjcnkkmhkcddaa
open Go.RowKit Go.Shelf
open Lim

attribute [local go_sem] Oper.semAt_some

def nbB (m : Mp) (a c : Nat) : Bool := decide ((c : Int) ∈ nbrL m.wd m.n a)
theorem nbB_iff {m : Mp} {a c : Nat} : nbB m a c = true ↔ nb m a c := by simp [nbB, nb]
set_option maxRecDepth 100000 in
set_option maxHeartbeats 1000000 in
theorem beside_any {m : Mp} {a c : Nat} {oa : Option Addr} {oc : Nat} {w : World} (hm : m.Ok) (ha : a < m.n) :
    Calls Try.prog 95 #[.agg #[.int .i64 m.wd, .slice oa m.n oc], .int .i64 a, .int .i64 c] w fun e w' => e = .returned (.bool (nbB m a c)) ∧ Below w.heap.size w w' := by
  have hn := hm.n1
  refine (callsIn_wide (n := 2)).1 (callsIn_of_wp_marks Try.func95 rfl trivial ?_ rfl)
  simp only [Try.ntmps95, List.size_toArray, List.length_cons, List.length_nil, Nat.reduceAdd, Nat.reduceSub, Array.replicate_succ, Array.replicate_zero, List.push_toArray, List.append_toArray, List.nil_append, List.cons_append]
  refine wpIn_wide.2 ?_
  refine wp_noPanic ?_
  go_wp2_with (go_at_call 86; refine (neighbours_any _ _ _ _ ⟨_, _, _, rfl⟩).mono ?_; rintro e w' ⟨rfl, rfl⟩)
  generalize hW : World.alloc _ _ = W0
  have hsz : w.heap.size + 5 = W0.heap.size := by rw [← hW]; simp
  have hB0 : Below w.heap.size w W0 := by rw [← hW]; exact (((((Below.refl _ w).alloc (Nat.le_refl _) _).alloc (by simp) _).alloc (by simp; omega) _).alloc (by simp; omega) _).alloc (by simp; omega) _
  have f1 : W0.cell? ⟨w.heap.size + 1, 0, none⟩ = some (.int .i64 c) := by rw [← hW]; simp [go_sem]
  have f2 : W0.cell? ⟨w.heap.size + 1 + 1, 0, none⟩ = some (.bool false) := by rw [← hW]; simp [go_sem]
  have f3 : W0.frozen? ⟨w.heap.size + 1 + 1, 0, none⟩ = false := by rw [← hW]; simp [go_sem]
  have f4 : W0.cell? ⟨w.heap.size + 1 + 1 + 1, 0, none⟩ = some (.int .i64 m.wd) := by rw [← hW]; simp [go_sem]
  have f5 : W0.cell? ⟨w.heap.size + 1 + 1 + 1, 1, none⟩ = some (.slice oa m.n oc) := by rw [← hW]; simp [go_sem]
  have f6 : W0.cell? ⟨w.heap.size + 1 + 1 + 1 + 1, 0, none⟩ = some (.int .i64 a) := by rw [← hW]; simp [go_sem]
  have hNe : Ne (w.heap.size + 1 + 1 + 1) (w.heap.size + 1 + 1 + 1 + 1) m.wd m.n oc a oa W0 := ⟨f4, f5, f6⟩
  clear hW f4 f5 f6
  refine wp_range (xs := nbrL m.wd m.n a) rfl (enters_of Try.func100 (by kernel_rfl) rfl) (Ne (w.heap.size + 1 + 1 + 1) (w.heap.size + 1 + 1 + 1 + 1) m.wd m.n oc a oa)
    (nbr_iter hm.w0 (Nat.le_trans hm.wn hn) hn (by omega) hNe)
    (fun pre W => (¬ (c : Int) ∈ pre) ∧ Ne (w.heap.size + 1 + 1 + 1) (w.heap.size + 1 + 1 + 1 + 1) m.wd m.n oc a oa W ∧ W.cell? ⟨w.heap.size + 1, 0, none⟩ = some (.int .i64 c) ∧ W.cell? ⟨w.heap.size + 1 + 1, 0, none⟩ = some (.bool false) ∧ W.frozen? ⟨w.heap.size + 1 + 1, 0, none⟩ = false ∧ Below w.heap.size w W)
    (fun j pre W => j = .ret ∧ (c : Int) ∈ pre ∧ W.cell? ⟨w.heap.size + 1 + 1, 0, none⟩ = some (.bool true) ∧ Below w.heap.size w W)
    (fun _ _ h => h.2.1) (fun _ _ h hs => h.steady hs) ?sI ?sX ⟨by simp, hNe, f1, f2, f3, hB0⟩ (fun x => { tmps := #[.agg #[.int .i64 m.wd, .slice oa m.n oc], .int .i64 a, .int .i64 c, .pointer (some ⟨w.heap.size, 0, none⟩), undef, .pointer (some ⟨w.heap.size + 1, 0, none⟩), .pointer (some ⟨w.heap.size + 1 + 1, 0, none⟩), .int .i64 x, .agg #[.int .i64 m.wd, .slice oa m.n oc], .int .i64 a, .func (.func 100) #[] #[.pointer (some ⟨w.heap.size + 1 + 1 + 1 + 1, 0, none⟩), .pointer (some ⟨w.heap.size + 1 + 1 + 1, 0, none⟩)], .int .i64 x, undef, undef, undef], defers := [] }) ?assign ?body ?done ?stop
  case sI => exact fun _ _ _ h hs => ⟨h.1, h.2.1.steady hs, hs.cell h.2.2.1, hs.cell h.2.2.2.1, (hs.frozen h.2.2.2.1).trans h.2.2.2.2.1, h.2.2.2.2.2.steady hs (by omega) h.2.2.2.2.2.size⟩
  case sX => exact fun _ _ _ _ h hs => ⟨h.1, h.2.1, hs.cell h.2.2.1, h.2.2.2.steady hs (by omega) h.2.2.2.size⟩
  case assign =>
    intro l x W K hK
    gi_wp2
    exact hK
  case body =>
    rintro l pre x W hx ⟨i0, iC, i1, i2, i3, iB⟩
    obtain ⟨k, rfl, hk⟩ := mem_nbrL hm.w0 hm.dv ha hx
    clear hNe f1 f2 f3 hx
    have I0 := Lib.hid i0
    clear i0
    refine wpIn_block ?_
    by_cases hkc : k = c
    · subst hkc
      gi_wp2
      exact ⟨(KeepsOthers.setCell _ _ _).from _, rfl, by simp, World.cell?_setCell_same' _ _ _ (by rw [i2]; rfl), iB.setCell (p := ⟨w.heap.size + 1 + 1, 0, none⟩) (by simp; omega) _⟩
    · have g1 : ((k : Int) == c) = false := by simp; omega
      have g2 : (k == c) = false := by simp; omega
      have HKC := Lib.hid hkc
      clear hkc
      gi_wp2
      refine ⟨(KeepsOthers.refl W).from _, ?_, iC, i1, i2, i3, iB⟩
      rw [List.mem_append]
      rintro (h | h)
      · exact I0.out h
      · have : (c : Int) = k := by simpa using h
        exact HKC.out (by omega)
  case done =>
    rintro D W hD ⟨i0, iC, i1, i2, i3, iB⟩ hDk
    have I0 := Lib.hid i0
    clear i0
    go_wp2
    have hk := (KeepsOthers.setCell W ⟨w.heap.size + 1 + 1, 0, none⟩ (.bool false)).same D _ hDk rfl
    refine leaves_marks (B := W0.heap.size) _ ⟨[D], rfl, by simp, by simpa using ⟨hD, hk⟩⟩ (fun w' hs => ⟨.bool false, ?_, by rw [show nbB m a c = false from decide_eq_false I0.out], ?_⟩)
    · have := hs.cell (World.cell?_setCell_same' W ⟨w.heap.size + 1 + 1, 0, none⟩ (.bool false) (by rw [i2]; rfl))
      simp [results, Try.f95, go_sem, this]
    · exact (iB.setCell (p := ⟨w.heap.size + 1 + 1, 0, none⟩) (by simp; omega) _).steady hs (by omega) (by have := iB.size; simp [World.setCell]; omega)
  case stop =>
    rintro D j pre W hD hpre ⟨rfl, hx, i3, iB⟩ hDk
    have I0 := Lib.hid (hpre.subset hx)
    clear hx
    go_wp2
    refine leaves_marks (B := W0.heap.size) _ ⟨[D], rfl, by simp, by simpa using ⟨hD, hDk⟩⟩ (fun w' hs => ⟨.bool true, ?_, by rw [show nbB m a c = true from decide_eq_true I0.out], ?_⟩)
    · have := hs.cell i3
      simp [results, Try.f95, go_sem, this]
    · exact iB.steady hs (by omega) iB.size
/-- whether a list goes from neighbour to neighbour -/
def goesTo (m : Mp) (L : List Nat) : Nat → Bool
  | 0 => true
  | 1 => true
  | k + 2 => goesTo m L (k + 1) && nbB m (L.getD k 0) (L.getD (k + 1) 0)
def goesB (m : Mp) (L : List Nat) : Bool := goesTo m L L.length && decide (0 < L.length)
theorem goesTo_le {m : Mp} {L : List Nat} : ∀ {k j : Nat}, j ≤ k → goesTo m L k = true → goesTo m L j = true
  | 0, j, h, _ => by rw [Nat.le_zero.1 h]; rfl
  | 1, j, h, hk => by
    rcases (show j = 0 ∨ j = 1 by omega) with rfl | rfl <;> rfl
  | k + 2, j, h, hk => by
    by_cases e : j = k + 2
    · rw [e]; exact hk
    · rw [goesTo, Bool.and_eq_true] at hk
      exact goesTo_le (k := k + 1) (by omega) hk.1
set_option maxRecDepth 20000 in
set_option maxHeartbeats 1000000 in
theorem goes_any {B : Nat} {m : Mp} {L : List Nat} {v : Value} {oa : Option Addr} {oc : Nat} {w : World} (hm : m.Ok) (hL : ∀ p ∈ L, p < m.n) (hl : L.length ≤ 100000) (hB : B ≤ w.heap.size) (hv : RS B w v L.length (ints (L.map Int.ofNat))) :
    Calls Try.prog 70 #[.agg #[.int .i64 m.wd, .slice oa m.n oc], v] w fun e w' => e = .returned (.bool (goesB m L)) ∧ Below w.heap.size w w' := by
  have HM := Lib.hid (And.intro hm hL)
  have HL := Lib.hid hl
  obtain ⟨sa, sc, rfl, hc⟩ := hv
  have HC := Lib.hid hc
  clear hm hL hc hl
  go_enter Try.func70, Try.ntmps70
  go_wp2_with fail
  have HB0 : Hid (Below w.heap.size w (w.alloc (.cells #[.int .i64 m.wd, .slice oa m.n oc] 24))) := Lib.hid ((Below.refl _ w).alloc (Nat.le_refl _) _)
  have hlt0 : w.heap.size < (w.alloc (.cells #[.int .i64 m.wd, .slice oa m.n oc] 24)).heap.size := by simp
  have f0 : (w.alloc (.cells #[.int .i64 m.wd, .slice oa m.n oc] 24)).cell? ⟨w.heap.size, 0, none⟩ = some (.int .i64 m.wd) := by simp [go_sem]
  have f1 : (w.alloc (.cells #[.int .i64 m.wd, .slice oa m.n oc] 24)).cell? ⟨w.heap.size, 1, none⟩ = some (.slice oa m.n oc) := by simp [go_sem]
  generalize w.alloc (.cells #[.int .i64 m.wd, .slice oa m.n oc] 24) = w0 at HB0 hlt0 f0 f1 ⊢
  go_loopw [5] (fun v wr => ∃ k : Nat, 1 ≤ k ∧ v = .int .i64 k ∧ Hid (goesTo m L k = true ∧ (L.length = 0 ∧ k = 1 ∨ k ≤ L.length) ∧ Below w0.heap.size w0 wr)) (fun v _ => L.length - (intOf v).toNat)
  case atStart => exact ⟨1, Nat.le_refl _, rfl, Lib.hid ⟨rfl, by omega, Below.refl _ _⟩⟩
  case round =>
    obtain ⟨k, hk1, rfl, hI⟩ := hrel
    have hl64 : (L.length : Int) ≤ 1000000 := by have := HL.out; omega
    by_cases hlt : k < L.length
    · obtain ⟨sb, so, rfl, hsb, hcell⟩ := HC.out (ints_ne (by simp; omega))
      have hbb := hI.out.2.2
      have d0 := hbb.on f0
      have d1 := hbb.on f1
      obtain ⟨j, rfl⟩ : ∃ j, k = j + 1 := ⟨k - 1, by omega⟩
      obtain ⟨x, hx⟩ : ∃ x, x = L.getD j 0 := ⟨_, rfl⟩
      obtain ⟨y, hy⟩ : ∃ y, y = L.getD (j + 1) 0 := ⟨_, rfl⟩
      have hx1 : w.cell? ⟨sb, so + j, none⟩ = some (.int .i64 x) := hcell j _ (by simp [ints, hx, List.getD_eq_getElem?_getD, show j < L.length by omega])
      have hy1 : w.cell? ⟨sb, so + (j + 1), none⟩ = some (.int .i64 y) := hcell (j + 1) _ (by simp [ints, hy, List.getD_eq_getElem?_getD, hlt])
      have hbw : Below w.heap.size w wr := HB0.out.trans (hbb.mono HB0.out.size)
      have dx := cell_below hbw hx1 (by show sb < _; omega)
      have dy := cell_below hbw hy1 (by show sb < _; omega)
      have hxn : x < m.n := by rw [hx, List.getD_eq_getElem?_getD, List.getElem?_eq_getElem (show j < L.length by omega)]; exact HM.out.2 _ (List.getElem_mem _)
      have HXY := Lib.hid (And.intro hx hy)
      obtain ⟨k, hk⟩ : ∃ k, k = j + 1 := ⟨_, rfl⟩
      have hj : (j : Int) = (k : Int) - 1 := by omega
      have hw1 : IntKind.i64.wrap ((k : Int) - 1) = (j : Int) := by rw [IntWalk.i64_in _ (by omega)]; omega
      have HK := Lib.hid hk
      rw [← hk] at dy hI hk1 hlt ⊢
      have hC : (fun W => W.cell? ⟨w.heap.size, 0, none⟩ = some (.int .i64 m.wd) ∧ W.cell? ⟨w.heap.size, 1, none⟩ = some (.slice oa m.n oc) ∧ W.cell? ⟨sb, so + j, none⟩ = some (.int .i64 x) ∧ W.cell? ⟨sb, so + k, none⟩ = some (.int .i64 y)) wr.drew := ⟨d0, d1, dx, dy⟩
      have HBE := Lib.hid (beside_any (c := y) (oa := oa) (oc := oc) (w := wr.drew) HM.out.1 hxn)
      have HWD := Lib.hid (hbw.trans ((Below.refl w.heap.size wr).drew))
      clear hk hj hx hy hx1 hy1 hbw dx dy d0 d1 hcell hxn hbb
      have hjlt : j < L.length := by have := HK.out; omega
      obtain ⟨z, hz⟩ : ∃ z, z = nbB m x y := ⟨_, rfl⟩
      rw [← hz] at HBE
      have HZ := Lib.hid hz
      clear hz
      go_wp2_with fail
      refine Lim.regC' (fun W => W.cell? ⟨w.heap.size, 0, none⟩ = some (.int .i64 m.wd) ∧ W.cell? ⟨w.heap.size, 1, none⟩ = some (.slice oa m.n oc) ∧ W.cell? ⟨sb, so + j, none⟩ = some (.int .i64 x) ∧ W.cell? ⟨sb, so + k, none⟩ = some (.int .i64 y)) [] #[false, false, false, false, false, false, false, false, false, false, false, false] (by kernel_rfl) rfl ?_
      refine Lim.stepR 0 (fun _ => trivial) rfl (by kernel_rfl) (fun _ _ _ _ h => h) hC rfl ?_; apply Exists.intro; refine ⟨?_, ?_⟩
      · rintro w ⟨r1, r2, r3, r4⟩; go_simp; try with_reducible rfl
      simp only [Act.put, List.setIfInBounds_toArray, List.set_cons_succ, List.set_cons_zero]
      refine Lim.stepR 1 (fun _ => trivial) rfl (by kernel_rfl) (fun _ _ _ _ h => h) hC rfl ?_; apply Exists.intro; refine ⟨?_, ?_⟩
      · rintro w ⟨r1, r2, r3, r4⟩; go_simp; try with_reducible rfl
      simp only [Act.put, List.setIfInBounds_toArray, List.set_cons_succ, List.set_cons_zero]
      refine Lim.stepR 2 (fun _ => trivial) rfl (by kernel_rfl) (fun _ _ _ _ h => h) hC rfl ?_; apply Exists.intro; refine ⟨?_, ?_⟩
      · rintro w ⟨r1, r2, r3, r4⟩; go_simp; try with_reducible rfl
      simp only [Act.put, List.setIfInBounds_toArray, List.set_cons_succ, List.set_cons_zero]
      refine Lim.stepR 3 (fun _ => trivial) rfl (by kernel_rfl) (fun _ _ _ _ h => h) hC rfl ?_; apply Exists.intro; refine ⟨?_, ?_⟩
      · rintro w ⟨r1, r2, r3, r4⟩; go_simp; try with_reducible rfl
      simp only [Act.put, List.setIfInBounds_toArray, List.set_cons_succ, List.set_cons_zero]
      refine Lim.stepR 4 (fun _ => trivial) rfl (by kernel_rfl) (fun _ _ _ _ h => h) hC rfl ?_; apply Exists.intro; refine ⟨?_, ?_⟩
      · rintro w ⟨r1, r2, r3, r4⟩; go_simp; try with_reducible rfl
      simp only [Act.put, List.setIfInBounds_toArray, List.set_cons_succ, List.set_cons_zero]
      refine Lim.stepR 5 (fun _ => trivial) rfl (by kernel_rfl) (fun _ _ _ _ h => h) hC rfl ?_; apply Exists.intro; refine ⟨?_, ?_⟩
      · rintro w ⟨r1, r2, r3, r4⟩; go_simp; try with_reducible rfl
      simp only [Act.put, List.setIfInBounds_toArray, List.set_cons_succ, List.set_cons_zero]
      refine Lim.stepR 6 (fun _ => trivial) rfl (by kernel_rfl) (fun _ _ _ _ h => h) hC rfl ?_; apply Exists.intro; refine ⟨?_, ?_⟩
      · rintro w ⟨r1, r2, r3, r4⟩; go_simp; try with_reducible rfl
      simp only [Act.put, List.setIfInBounds_toArray, List.set_cons_succ, List.set_cons_zero]
      refine Lim.stepR 7 (fun _ => trivial) rfl (by kernel_rfl) (fun _ _ _ _ h => h) hC rfl ?_; apply Exists.intro; refine ⟨?_, ?_⟩
      · rintro w ⟨r1, r2, r3, r4⟩; go_simp; try with_reducible rfl
      simp only [Act.put, List.setIfInBounds_toArray, List.set_cons_succ, List.set_cons_zero]
      refine Lim.stepR 8 (fun _ => trivial) rfl (by kernel_rfl) (fun _ _ _ _ h => h) hC rfl ?_; apply Exists.intro; refine ⟨?_, ?_⟩
      · rintro w ⟨r1, r2, r3, r4⟩; go_simp; try with_reducible rfl
      simp only [Act.put, List.setIfInBounds_toArray, List.set_cons_succ, List.set_cons_zero]
      refine Lim.stepR 9 (fun _ => trivial) rfl (by kernel_rfl) (fun _ _ _ _ h => h) hC rfl ?_; apply Exists.intro; refine ⟨?_, ?_⟩
      · rintro w ⟨r1, r2, r3, r4⟩; go_simp; try with_reducible rfl
      simp only [Act.put, List.setIfInBounds_toArray, List.set_cons_succ, List.set_cons_zero]
      refine Lim.stepE 10 (fun _ => trivial) rfl (by kernel_rfl) rfl (fun K hK => ?_)   -- E call
      go_simp
      refine ⟨rfl, (callsIn_wide.2 HBE.out).mono ?_⟩
      rintro e w5 ⟨rfl, hb5⟩
      have HB5 := Lib.hid hb5
      have hC5 : (fun W => W.cell? ⟨w.heap.size, 0, none⟩ = some (.int .i64 m.wd) ∧ W.cell? ⟨w.heap.size, 1, none⟩ = some (.slice oa m.n oc) ∧ W.cell? ⟨sb, so + j, none⟩ = some (.int .i64 x) ∧ W.cell? ⟨sb, so + k, none⟩ = some (.int .i64 y)) w5 := ⟨hb5.on hC.1, hb5.on hC.2.1, hb5.on hC.2.2.1, hb5.on hC.2.2.2⟩
      refine hK _ _ hC5 ?_
      clear hb5
      simp only [Act.put, List.setIfInBounds_toArray, List.set_cons_succ, List.set_cons_zero]
      refine Lim.stepR 11 (fun _ => trivial) rfl (by kernel_rfl) (fun _ _ _ _ h => h) hC5 rfl ?_; apply Exists.intro; refine ⟨?_, ?_⟩
      · rintro w ⟨r1, r2, r3, r4⟩; go_simp; try with_reducible rfl
      simp only [Act.put, List.setIfInBounds_toArray, List.set_cons_succ, List.set_cons_zero]
      refine Lim.stepD (by kernel_rfl) ?_
      clear hC hC5
      cases z with
      | true =>
        go_wp2_with fail
        go_roundw
        case rel =>
          refine ⟨k + 1, by omega, by go_num, Lib.hid ⟨?_, .inr (by omega), hI.out.2.2.trans ((((Below.refl _ wr).drew).trans HB5.out).mono hI.out.2.2.size)⟩⟩
          have h1 := hI.out.1
          have h2 := HXY.out
          have h3 := HK.out
          subst h3
          rw [goesTo, h1, ← h2.1, ← h2.2, ← HZ.out]; rfl
        case measure => simp [intOf]; omega
      | false =>
        have HF : Hid (goesB m L = false) := Lib.hid (by
          rw [goesB, Bool.eq_false_iff]
          intro h
          rw [Bool.and_eq_true] at h
          have h2 := HXY.out
          have h3 := HK.out
          have h1 := goesTo_le (k := L.length) (j := j + 2) (by omega) h.1
          rw [goesTo, ← h2.1, ← h2.2, ← HZ.out, Bool.and_false] at h1
          cases h1)
        go_wp2_with fail
        go_ret
        exact ⟨by rw [HF.out]; rfl, HWD.out.trans (HB5.out.mono HWD.out.size)⟩
    · have HF : Hid (goesB m L = decide (0 < L.length)) := Lib.hid (by
        rw [goesB]
        rcases hI.out.2.1 with ⟨h1, h2⟩ | h1
        · rw [h1]; simp
        · have : k = L.length := by omega
          rw [← this, hI.out.1, Bool.true_and])
      have hd : decide (k < L.length) = false := decide_eq_false hlt
      have HBB := Lib.hid (HB0.out.trans (hI.out.2.2.mono HB0.out.size))
      obtain ⟨n, hn⟩ : ∃ n, n = L.length := ⟨_, rfl⟩
      simp only [← hn] at HF hd hl64 ⊢
      by_cases h0 : 0 < n
      · have e0 : decide (0 < n) = true := decide_eq_true h0
        have HE := Lib.hid e0
        clear h0 hn
        go_wp2_with fail
        go_ret
        exact ⟨by rw [HF.out, HE.out]; rfl, HBB.out⟩
      · have e0 : decide (0 < n) = false := decide_eq_false h0
        have HE := Lib.hid e0
        clear h0 hn
        go_wp2_with fail
        go_ret
        exact ⟨by rw [HF.out, HE.out]; rfl, HBB.out⟩
end Go.Proofs.Ytkjcnkkmhkcddaa
