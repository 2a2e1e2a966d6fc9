/-
  Parts of the proof, in the order in which they build: EvO.
-/
import Derived.Deep.CutRange
import Derived.BigQuiet
import Derived.Test.YtkjcnkkmhkcddaaA35
set_option linter.unusedVariables false
set_option linter.unusedSimpArgs false
namespace Go.Proofs.Ytkjcnkkmhkcddaa
open Go.RowKit Go.Shelf
open Lim

attribute [local go_sem] Oper.semAt_some

theorem goesTo_iff {m : Mp} {L : List Nat} : ∀ k, goesTo m L k = true ↔ ∀ j, j + 1 < k → nb m (L.getD j 0) (L.getD (j + 1) 0)
  | 0 => ⟨fun _ j h => by omega, fun _ => rfl⟩
  | 1 => ⟨fun _ j h => by omega, fun _ => rfl⟩
  | k + 2 => by
    rw [goesTo, Bool.and_eq_true, goesTo_iff (k + 1), nbB_iff]
    constructor
    · rintro ⟨h1, h2⟩ j hj
      by_cases e : j = k
      · subst e; exact h2
      · exact h1 j (by omega)
    · intro h
      exact ⟨fun j hj => h j (by omega), h k (by omega)⟩
theorem leads_iff {m : Mp} {r : Nat → Nat} {i j : Nat} {L : List Nat} (hlt : ∀ p ∈ L, p < m.n) : Leads m r i j L ↔ goesB m L = true ∧ r (L.getD 0 0) = i ∧ rimB m (L.getD (L.length - 1) 0) = true ∧ ∀ p ∈ L, r p ≠ j := by
  rw [goesB, Bool.and_eq_true, goesTo_iff, decide_eq_true_iff]
  constructor
  · intro h
    obtain ⟨b, s, e1, h1⟩ := h.first
    obtain ⟨l, c, e2, h2⟩ := h.last
    refine ⟨⟨fun k hk => ?_, by rw [e1]; simp⟩, by rw [e1]; exact h1, ?_, h.free⟩
    · have hs : L = L.take k ++ L[k] :: L[k + 1] :: L.drop (k + 2) := by
        rw [List.getElem_cons_drop, List.getElem_cons_drop, List.take_append_drop]
      have := h.adj _ _ _ _ hs
      rw [List.getD_eq_getElem?_getD, List.getD_eq_getElem?_getD, List.getElem?_eq_getElem hk, List.getElem?_eq_getElem (by omega)]
      exact this
    · rw [e2]; simpa using h2
  · rintro ⟨⟨h1, h2⟩, h3, h4, h5⟩
    refine ⟨hlt, h5, fun l a b s e => ?_, ?_, ?_⟩
    · have := h1 l.length (by rw [e]; simp)
      rw [e] at this
      simpa using this
    · cases L with
      | nil => simp at h2
      | cons x L => exact ⟨x, L, rfl, h3⟩
    · have hne : L ≠ [] := fun e => by rw [e] at h2; simp at h2
      refine ⟨L.dropLast, L.getLast hne, (List.dropLast_concat_getLast hne).symm, ?_⟩
      rw [List.getLast_eq_getElem]
      rw [List.getD_eq_getElem?_getD, List.getElem?_eq_getElem (by omega)] at h4
      exact h4
set_option maxHeartbeats 400000 in
theorem leads1_any {q4 n oc : Nat} {oa : Option Addr} {w : World} (p : Int) (hn : n ≤ 100) (h : w.cell? ⟨q4, 1, none⟩ = some (.slice oa n oc)) :
    Calls Try.prog 69 #[.int .i64 p, .pointer (some ⟨q4, 0, none⟩)] w fun e w' => e = .returned (.bool (inB p 0 ((n : Int) - 1))) ∧ w = w' := by
  have hw1 : IntKind.i64.wrap ((n : Int) - 1) = (n : Int) - 1 := IntWalk.i64_in _ (by omega)
  go_enter Try.func69, Try.ntmps69
  go_wp2_with (go_at_call 48; refine (in_any _ _ _ _).mono ?_; rintro e w' ⟨rfl, rfl⟩)
  go_ret
  exact ⟨rfl, rfl⟩
def neB (a b : Nat) : Bool := decide (a ≠ b)
set_option maxRecDepth 20000 in
set_option maxHeartbeats 400000 in
theorem leads2_any {qw q6 b g n p rp j : Nat} {w : World} (hn : n ≤ 100) (hp : p < n) (h1 : w.cell? ⟨qw, 0, none⟩ = some (.pointer (some ⟨b, 0, none⟩))) (h2 : w.cell? ⟨b, 2, none⟩ = some (.slice (some ⟨g, 0, none⟩) n n)) (h3 : w.cell? ⟨g, p, none⟩ = some (.int .i64 rp)) (h4 : w.cell? ⟨q6, 0, none⟩ = some (.int .i64 j)) :
    Calls Try.prog 72 #[.int .i64 p, .pointer (some ⟨qw, 0, none⟩), .pointer (some ⟨q6, 0, none⟩)] w fun e w' => e = .returned (.bool (neB rp j)) ∧ Below w.heap.size w w' := by
  have hp64 : (p : Int) < 100 := by omega
  obtain ⟨z, hz⟩ : ∃ z, ((rp : Int) != j) = z := ⟨_, rfl⟩
  have HZ : Hid (neB rp j = z) := Lib.hid (by rw [← hz, neB]; by_cases h : rp = j
                                              · simp [h]
                                              · have : ¬ (rp : Int) = j := by omega
                                                simp [h, this])
  go_enter Try.func72, Try.ntmps72
  go_wp2_with fail
  have hC : (fun W => W.cell? ⟨qw, 0, none⟩ = some (.pointer (some ⟨b, 0, none⟩)) ∧ W.cell? ⟨b, 2, none⟩ = some (.slice (some ⟨g, 0, none⟩) n n) ∧ W.cell? ⟨g, p, none⟩ = some (.int .i64 rp) ∧ W.cell? ⟨q6, 0, none⟩ = some (.int .i64 j)) w.drew := ⟨h1, h2, h3, h4⟩
  refine Lim.regC' (fun W => W.cell? ⟨qw, 0, none⟩ = some (.pointer (some ⟨b, 0, none⟩)) ∧ W.cell? ⟨b, 2, none⟩ = some (.slice (some ⟨g, 0, none⟩) n n) ∧ W.cell? ⟨g, p, none⟩ = some (.int .i64 rp) ∧ W.cell? ⟨q6, 0, none⟩ = some (.int .i64 j)) [] #[false, false, false, false, false, false, false, false, false, false] (by kernel_rfl) rfl ?_
  refine Lim.stepR 0 (fun _ => trivial) rfl (by kernel_rfl) (fun _ _ _ _ h => h) hC rfl ?_; apply Exists.intro; refine ⟨?_, ?_⟩
  · rintro w ⟨r1, r2, r3, r4⟩; go_simp; try with_reducible rfl
  simp only [Act.put, List.setIfInBounds_toArray, List.set_cons_succ, List.set_cons_zero]
  refine Lim.stepR 1 (fun _ => trivial) rfl (by kernel_rfl) (fun _ _ _ _ h => h) hC rfl ?_; apply Exists.intro; refine ⟨?_, ?_⟩
  · rintro w ⟨r1, r2, r3, r4⟩; go_simp; try with_reducible rfl
  simp only [Act.put, List.setIfInBounds_toArray, List.set_cons_succ, List.set_cons_zero]
  refine Lim.stepR 2 (fun _ => trivial) rfl (by kernel_rfl) (fun _ _ _ _ h => h) hC rfl ?_; apply Exists.intro; refine ⟨?_, ?_⟩
  · rintro w ⟨r1, r2, r3, r4⟩; go_simp; try with_reducible rfl
  simp only [Act.put, List.setIfInBounds_toArray, List.set_cons_succ, List.set_cons_zero]
  refine Lim.stepR 3 (fun _ => trivial) rfl (by kernel_rfl) (fun _ _ _ _ h => h) hC rfl ?_; apply Exists.intro; refine ⟨?_, ?_⟩
  · rintro w ⟨r1, r2, r3, r4⟩; go_simp; try with_reducible rfl
  simp only [Act.put, List.setIfInBounds_toArray, List.set_cons_succ, List.set_cons_zero]
  refine Lim.stepR 4 (fun _ => trivial) rfl (by kernel_rfl) (fun _ _ _ _ h => h) hC rfl ?_; apply Exists.intro; refine ⟨?_, ?_⟩
  · rintro w ⟨r1, r2, r3, r4⟩; go_simp; try with_reducible rfl
  simp only [Act.put, List.setIfInBounds_toArray, List.set_cons_succ, List.set_cons_zero]
  refine Lim.stepR 5 (fun _ => trivial) rfl (by kernel_rfl) (fun _ _ _ _ h => h) hC rfl ?_; apply Exists.intro; refine ⟨?_, ?_⟩
  · rintro w ⟨r1, r2, r3, r4⟩; go_simp; try with_reducible rfl
  simp only [Act.put, List.setIfInBounds_toArray, List.set_cons_succ, List.set_cons_zero]
  refine Lim.stepR 6 (fun _ => trivial) rfl (by kernel_rfl) (fun _ _ _ _ h => h) hC rfl ?_; apply Exists.intro; refine ⟨?_, ?_⟩
  · rintro w ⟨r1, r2, r3, r4⟩; go_simp; try with_reducible rfl
  simp only [Act.put, List.setIfInBounds_toArray, List.set_cons_succ, List.set_cons_zero]
  refine Lim.stepR 7 (fun _ => trivial) rfl (by kernel_rfl) (fun _ _ _ _ h => h) hC rfl ?_; apply Exists.intro; refine ⟨?_, ?_⟩
  · rintro w ⟨r1, r2, r3, r4⟩; go_simp; try with_reducible rfl
  simp only [Act.put, List.setIfInBounds_toArray, List.set_cons_succ, List.set_cons_zero]
  refine Lim.stepR 8 (fun _ => trivial) rfl (by kernel_rfl) (fun _ _ _ _ h => h) hC rfl ?_; apply Exists.intro; refine ⟨?_, ?_⟩
  · rintro w ⟨r1, r2, r3, r4⟩; go_simp; try with_reducible rfl
  simp only [Act.put, List.setIfInBounds_toArray, List.set_cons_succ, List.set_cons_zero]
  refine Lim.stepR 9 (fun _ => trivial) rfl (by kernel_rfl) (fun _ _ _ _ h => h) hC rfl ?_; apply Exists.intro; refine ⟨?_, ?_⟩
  · rintro w ⟨r1, r2, r3, r4⟩; go_simp; try with_reducible rfl
  simp only [Act.put, List.setIfInBounds_toArray, List.set_cons_succ, List.set_cons_zero]
  refine Lim.stepD (by kernel_rfl) ?_
  go_wp2
  go_ret
  exact ⟨by rw [HZ.out]; first | rfl | (rw [hz]; rfl) | (rw [← hz]; rfl), (Below.refl _ _).drew⟩
/-- what Leads answers -/
def LeAns (wd : Int) (os : List Int) (i j : Int) (xs : List Int) (w : World) (e : Ending) (w' : World) : Prop :=
  Below w.heap.size w w' ∧ ((errE wd os ≠ 0 ∧ e = .returned (.tuple #[.bool false, .int .i64 (errE wd os)])) ∨
    (errE wd os = 0 ∧ ∃ (r : Nat → Nat) (k : Nat), IsReg ⟨wd.toNat, os⟩ r ∧ IsMany ⟨wd.toNat, os⟩ r k ∧ ((askE i j k ≠ 0 ∧ e = .returned (.tuple #[.bool false, .int .i64 (askE i j k)])) ∨
      (askE i j k = 0 ∧ (¬ ∀ x ∈ xs, 0 ≤ x ∧ x < os.length) ∧ e = .returned (.tuple #[.bool false, .int .i64 2])) ∨
      (askE i j k = 0 ∧ (∀ x ∈ xs, 0 ≤ x ∧ x < os.length) ∧ ∃ z : Bool, e = .returned (.tuple #[.bool z, .int .i64 0]) ∧ (z = true ↔ Leads ⟨wd.toNat, os⟩ r i.toNat j.toNat (xs.map Int.toNat))))))
set_option maxRecDepth 20000 in
set_option maxHeartbeats 4000000 in
theorem Leads_any {B : Nat} {wd : Int} {ov wv : Value} {os xs : List Int} (i j : Int) {w : World} (hl : os.length ≤ 100000) (hxl : xs.length ≤ 100000) (hB : B ≤ w.heap.size) (hv : RS B w ov os.length (ints os)) (hx : RS B w wv xs.length (ints xs)) :
    Calls Try.prog 37 #[.agg #[.int .i64 wd, ov], .int .i64 i, .int .i64 j, wv] w fun e w' => LeAns wd os i j xs w e w' := by
  have HB0 : Hid (Below w.heap.size w ((w.alloc (.cells #[.int .i64 wd, ov] 24)).alloc (.cells #[.int .i64 j] 3))) := Lib.hid (((Below.refl _ w).alloc (Nat.le_refl _) _).alloc (by simp) _)
  have HO := Lib.hid (asked_any i j (w := (w.alloc (.cells #[.int .i64 wd, ov] 24)).alloc (.cells #[.int .i64 j] 3)) (wd := wd) hl (by simp; omega) (hv.below (HB0.out.mono hB)))
  have hsz : w.heap.size + 1 + 1 = ((w.alloc (.cells #[.int .i64 wd, ov] 24)).alloc (.cells #[.int .i64 j] 3)).heap.size := by simp
  have HS := Lib.hid (And.intro hsz hB)
  have f0 : ((w.alloc (.cells #[.int .i64 wd, ov] 24)).alloc (.cells #[.int .i64 j] 3)).cell? ⟨w.heap.size, 0, none⟩ = some (.int .i64 wd) := by simp [go_sem]
  have f1 : ((w.alloc (.cells #[.int .i64 wd, ov] 24)).alloc (.cells #[.int .i64 j] 3)).cell? ⟨w.heap.size, 1, none⟩ = some ov := by simp [go_sem]
  have f2 : ((w.alloc (.cells #[.int .i64 wd, ov] 24)).alloc (.cells #[.int .i64 j] 3)).cell? ⟨w.heap.size + 1, 0, none⟩ = some (.int .i64 j) := by simp [go_sem]
  have HXS := Lib.hid (And.intro hx hxl)
  obtain ⟨oa, oc, rfl, -⟩ := hv
  obtain ⟨xa, xc, rfl, -⟩ := hx
  clear hl hB hsz hxl
  go_enter Try.func37, Try.ntmps37
  go_wp2_with fail
  generalize (w.alloc (.cells #[.int .i64 wd, .slice oa os.length oc] 24)).alloc (.cells #[.int .i64 j] 3) = w0 at HB0 HO HS f0 f1 f2 ⊢
  refine HO.out.mono ?_
  clear HO
  rintro e w1 ⟨hb, h⟩
  have HB1 : Hid (Below w.heap.size w w1 ∧ w.heap.size + 1 < w1.heap.size) := Lib.hid ⟨HB0.out.trans (hb.mono HB0.out.size), by have := hb.size; have := HS.out.1; omega⟩
  replace f0 := hb.on f0
  replace f1 := hb.on f1
  replace f2 := hb.on f2
  clear hb
  obtain ⟨q4, hq4⟩ : ∃ q, q = w.heap.size := ⟨_, rfl⟩
  obtain ⟨q6, hq6⟩ : ∃ q, q = w.heap.size + 1 := ⟨_, rfl⟩
  rw [← hq6] at f2
  rw [← hq4] at f0 f1
  rw [← hq6, ← hq4]
  have HQ := Lib.hid (And.intro hq4 hq6)
  clear hq4 hq6
  rcases h with ⟨he, b, g, r, k, rfl, hlt, hw, hr, hk⟩ | ⟨he, rfl⟩
  · have HOK : Hid (Mp.Ok ⟨wd.toNat, os⟩ ∧ os.length ≤ 100 ∧ wd = (wd.toNat : Int)) := Lib.hid (by
      have h := countB_ok (wd := wd) (os := os) (by unfold errE at he; cases hc : countB wd os.length with
        | true => rfl
        | false => rw [hc] at he; cases he)
      exact ⟨h.1, h.1.n1, h.2⟩)
    have HE := Lib.hid he
    have HW := Lib.hid (And.intro hlt (And.intro hr hk))
    have hal : Below w1.heap.size w1 (w1.alloc (.cells #[.pointer (some ⟨b, 0, none⟩)] 87)) := (Below.refl _ w1).alloc (Nat.le_refl _) _
    have HWK := Lib.hid (hw.below hal)
    have HB2 := Lib.hid (HB1.out.1.trans (hal.mono HB1.out.1.size))
    have d0 := hal.on f0
    have d1 := hal.on f1
    have d2 := hal.on f2
    have d3 : (w1.alloc (.cells #[.pointer (some ⟨b, 0, none⟩)] 87)).cell? ⟨w1.heap.size, 0, none⟩ = some (.pointer (some ⟨b, 0, none⟩)) := by simp [go_sem]
    have d4 : w1.heap.size < (w1.alloc (.cells #[.pointer (some ⟨b, 0, none⟩)] 87)).heap.size := by simp
    clear he hlt hr hk hw hal f0 f1 f2
    obtain ⟨er, her⟩ : ∃ er, er = askE i j k := ⟨_, rfl⟩
    rw [← her]
    by_cases h0 : er = 0
    · have HA := Lib.hid (askE_zero (her.symm.trans h0))
      have HER := Lib.hid (her.symm.trans h0)
      subst h0
      clear her
      go_upto_region 4 with (fail)
      generalize w1.alloc (.cells #[.pointer (some ⟨b, 0, none⟩)] 87) = w2 at HWK HB2 d0 d1 d2 d3 d4 ⊢
      obtain ⟨qw, hqw⟩ : ∃ q, q = w1.heap.size := ⟨_, rfl⟩
      rw [← hqw] at d3 ⊢
      clear hqw
      have HE1 := Lib.hid (every_any (B := B) (p := fun k => inB (xs.getD k 0) 0 ((os.length : Int) - 1)) (lb := #[.pointer (some ⟨q4, 0, none⟩)]) (w := w2) (enters_of Try.func69 (by kernel_rfl) rfl) HXS.out.2 (HXS.out.1.below (HB2.out.mono HS.out.2)) (by have := HB2.out.size; have := HS.out.2; omega) (fun k hk W hb => by
        have h := leads1_any (xs.getD k 0) HOK.out.2.1 (hb.on d1)
        exact h.mono (fun e w' h => ⟨h.1, by rw [← h.2]; exact Below.refl _ _⟩)))
      go_wp2_with fail
      refine HE1.out.mono ?_
      rintro e w3 ⟨rfl, hb3⟩
      have HB3 := Lib.hid (HB2.out.trans (hb3.mono HB2.out.size))
      have HWK3 := Lib.hid (HWK.out.below hb3)
      replace d0 := hb3.on d0
      replace d1 := hb3.on d1
      replace d2 := hb3.on d2
      replace d3 := hb3.on d3
      clear hb3 HE1 HWK HB2 d4
      obtain ⟨z, hz⟩ : ∃ z, z = (List.range xs.length).all fun k => inB (xs.getD k 0) 0 ((os.length : Int) - 1) := ⟨_, rfl⟩
      rw [← hz]
      have HZ : Hid (z = true ↔ ∀ x ∈ xs, 0 ≤ x ∧ x < os.length) := Lib.hid (by
        rw [hz, List.all_eq_true]
        constructor
        · intro h x hx
          obtain ⟨k, hk, rfl⟩ := List.mem_iff_getElem.1 hx
          have h1 := h k (List.mem_range.2 hk)
          rw [List.getD_eq_getElem?_getD, List.getElem?_eq_getElem hk] at h1
          have h1 := inB_iff.1 h1
          simp only [Option.getD_some] at h1
          exact ⟨h1.1, by omega⟩
        · intro h k hk
          have hk := List.mem_range.1 hk
          have h1 := h _ (List.getElem_mem hk)
          rw [List.getD_eq_getElem?_getD, List.getElem?_eq_getElem hk]
          simp only [Option.getD_some]
          exact inB_true h1.1 (by omega))
      clear hz
      cases z with
      | false =>
        go_wp2_with fail
        go_ret2
        exact ⟨HB3.out, .inr ⟨HE.out, r, k, HW.out.2.1, HW.out.2.2, .inr (.inl ⟨HER.out, fun h => (by have := HZ.out.2 h; cases this), rfl⟩)⟩⟩
      | true =>
        have HIN := Lib.hid (HZ.out.1 rfl)
        clear HZ
        obtain ⟨m, hm⟩ : ∃ m : Mp, m = ⟨wd.toNat, os⟩ := ⟨_, rfl⟩
        have hwd : wd = (m.wd : Int) := by rw [hm]; exact HOK.out.2.2
        have hos : os = m.os := by rw [hm]
        have HFIN : Hid (∀ (z : Bool) (W : World), Below w.heap.size w W → (z = true ↔ Leads m r i.toNat j.toNat (xs.map Int.toNat)) → LeAns wd os i j xs w (.returned (.tuple #[.bool z, .int .i64 0])) W) := Lib.hid (fun z W hW h => by
          rw [hm] at h
          exact ⟨hW, .inr ⟨HE.out, r, k, HW.out.2.1, HW.out.2.2, .inr (.inr ⟨HER.out, HIN.out, z, rfl, h⟩)⟩⟩)
        have HMO : Hid (m.Ok ∧ m.n ≤ 100) := Lib.hid (by rw [hm]; exact ⟨HOK.out.1, HOK.out.2.1⟩)
        have HIN2 : Hid (∀ x ∈ xs, 0 ≤ x ∧ x < m.n) := Lib.hid (by rw [hm]; exact HIN.out)
        rw [← hm] at HWK3
        clear hm HOK HE HIN HW
        subst hwd hos
        have hnn : m.os.length = m.n := rfl
        rw [hnn] at d1
        obtain ⟨L, hL⟩ : ∃ L, L = xs.map Int.toNat := ⟨_, rfl⟩
        have hLx : L.map Int.ofNat = xs := by
          rw [hL, List.map_map]
          exact (List.map_congr_left (fun x hx => Int.toNat_of_nonneg (HIN2.out x hx).1)).trans (List.map_id xs)
        have hLn : L.length = xs.length := by rw [hL, List.length_map]
        have HLm : Hid (∀ p ∈ L, p < m.n) := Lib.hid (fun p hp => by
          rw [hL] at hp
          obtain ⟨x, hx, rfl⟩ := List.mem_map.1 hp
          have := HIN2.out x hx
          omega)
        rw [← hL] at HFIN
        have HRL : Hid (RS B w3 (.slice xa xs.length xc) L.length (ints (L.map Int.ofNat))) := Lib.hid (by rw [hLx, hLn]; exact HXS.out.1.below (HB3.out.mono HS.out.2))
        have HLL : Hid (L.length ≤ 100000) := Lib.hid (by rw [hLn]; exact HXS.out.2)
        obtain ⟨N, hN⟩ : ∃ N, N = xs.length := ⟨_, rfl⟩
        rw [← hN] at hLn HRL
        simp only [← hN]
        have HJI : Hid (∃ j' i' : Nat, j = j' ∧ i = i' ∧ j.toNat = j' ∧ i.toNat = i') := Lib.hid ⟨j.toNat, i.toNat, by have := HA.out; omega, by have := HA.out; omega, rfl, rfl⟩
        obtain ⟨j', i', rfl, rfl, ej, ei⟩ := HJI.out
        rw [ej, ei] at HFIN
        clear HJI ej ei HA HER hL hLx hN HIN2 HXS hnn
        obtain ⟨ov, ho1, hov⟩ := HWK3.out.c1
        obtain ⟨oa2, oc2, rfl, -⟩ := hov
        have o0 := HWK3.out.c0
        have o2 := HWK3.out.c2
        have HGO := Lib.hid (goes_any (oa := oa) (oc := oc) (B := B) (w := w3.drew) HMO.out.1 HLm.out HLL.out (by have := HB3.out.size; have := HS.out.2; show B ≤ w3.heap.size; omega) (HRL.out.below (Below.refl _ w3).drew))
        rw [hLn] at HRL
        have HLN := Lib.hid hLn
        clear hLn
        obtain ⟨z1, hz1⟩ : ∃ z1, z1 = goesB m L := ⟨_, rfl⟩
        rw [← hz1] at HGO
        have HLI : Hid (Leads m r i' j' L ↔ z1 = true ∧ r (L.getD 0 0) = i' ∧ rimB m (L.getD (L.length - 1) 0) = true ∧ ∀ p ∈ L, r p ≠ j') := Lib.hid (by rw [hz1]; exact leads_iff HLm.out)
        have HZ1 := Lib.hid hz1
        clear hz1
        go_wp2_with fail
        cases z1 with
        | false =>
          have hC : (fun W => W.cell? ⟨q4, 0, none⟩ = some (.int .i64 m.wd) ∧ W.cell? ⟨q4, 1, none⟩ = some (.slice oa m.n oc)) w3.drew := ⟨d0, d1⟩
          refine Lim.regC' (fun W => W.cell? ⟨q4, 0, none⟩ = some (.int .i64 m.wd) ∧ W.cell? ⟨q4, 1, none⟩ = some (.slice oa m.n oc)) [] #[false, false, false, false, false, false, false, false, false, false, false, false, false, false, false, false, false, false, false, false, false, false, false, false, false, false, false, false, false, false, false, false, false, false, false, false] (by kernel_rfl) rfl ?_
          refine Lim.stepR 0 (fun _ => trivial) rfl (by kernel_rfl) (fun _ _ _ _ h => h) hC rfl ?_; apply Exists.intro; refine ⟨?_, ?_⟩
          · rintro w ⟨r1, r2⟩; go_simp; try with_reducible rfl
          simp only [Act.put, List.setIfInBounds_toArray, List.set_cons_succ, List.set_cons_zero]
          refine Lim.stepR 1 (fun _ => trivial) rfl (by kernel_rfl) (fun _ _ _ _ h => h) hC rfl ?_; apply Exists.intro; refine ⟨?_, ?_⟩
          · rintro w ⟨r1, r2⟩; go_simp; try with_reducible rfl
          simp only [Act.put, List.setIfInBounds_toArray, List.set_cons_succ, List.set_cons_zero]
          refine Lim.stepE 2 (fun _ => trivial) rfl (by kernel_rfl) rfl (fun K hK => ?_)   -- E call
          go_simp
          refine ⟨rfl, (callsIn_wide.2 HGO.out).mono ?_⟩
          rintro e w5 ⟨rfl, hb5⟩
          have HB5 := Lib.hid (HB3.out.trans (((Below.refl _ w3).drew.trans hb5).mono HB3.out.size))
          have hC5 : (fun W => W.cell? ⟨q4, 0, none⟩ = some (.int .i64 m.wd) ∧ W.cell? ⟨q4, 1, none⟩ = some (.slice oa m.n oc)) w5 := ⟨hb5.on hC.1, hb5.on hC.2⟩
          refine hK _ _ hC5 ?_
          clear hb5
          simp only [Act.put, List.setIfInBounds_toArray, List.set_cons_succ, List.set_cons_zero]
          refine Lim.stepR 3 (fun _ => trivial) rfl (by kernel_rfl) (fun _ _ _ _ h => h) hC5 rfl ?_; apply Exists.intro; refine ⟨?_, ?_⟩
          · rintro w ⟨r1, r2⟩; go_simp; try with_reducible rfl
          simp only [Act.put, List.setIfInBounds_toArray, List.set_cons_succ, List.set_cons_zero]
          refine Lim.stepS 4 (fun _ => trivial) rfl (by kernel_rfl) (fun _ _ _ _ h => h) hC5 rfl ?_
          simp only [Act.put, List.setIfInBounds_toArray, List.set_cons_succ, List.set_cons_zero]
          refine Lim.stepS 5 (fun _ => trivial) rfl (by kernel_rfl) (fun _ _ _ _ h => h) hC5 rfl ?_
          simp only [Act.put, List.setIfInBounds_toArray, List.set_cons_succ, List.set_cons_zero]
          refine Lim.stepS 6 (fun _ => trivial) rfl (by kernel_rfl) (fun _ _ _ _ h => h) hC5 rfl ?_
          simp only [Act.put, List.setIfInBounds_toArray, List.set_cons_succ, List.set_cons_zero]
          refine Lim.stepS 7 (fun _ => trivial) rfl (by kernel_rfl) (fun _ _ _ _ h => h) hC5 rfl ?_
          simp only [Act.put, List.setIfInBounds_toArray, List.set_cons_succ, List.set_cons_zero]
          refine Lim.stepS 8 (fun _ => trivial) rfl (by kernel_rfl) (fun _ _ _ _ h => h) hC5 rfl ?_
          simp only [Act.put, List.setIfInBounds_toArray, List.set_cons_succ, List.set_cons_zero]
          refine Lim.stepS 9 (fun _ => trivial) rfl (by kernel_rfl) (fun _ _ _ _ h => h) hC5 rfl ?_
          simp only [Act.put, List.setIfInBounds_toArray, List.set_cons_succ, List.set_cons_zero]
          refine Lim.stepS 10 (fun _ => trivial) rfl (by kernel_rfl) (fun _ _ _ _ h => h) hC5 rfl ?_
          simp only [Act.put, List.setIfInBounds_toArray, List.set_cons_succ, List.set_cons_zero]
          refine Lim.stepS 11 (fun _ => trivial) rfl (by kernel_rfl) (fun _ _ _ _ h => h) hC5 rfl ?_
          simp only [Act.put, List.setIfInBounds_toArray, List.set_cons_succ, List.set_cons_zero]
          refine Lim.stepS 12 (fun _ => trivial) rfl (by kernel_rfl) (fun _ _ _ _ h => h) hC5 rfl ?_
          simp only [Act.put, List.setIfInBounds_toArray, List.set_cons_succ, List.set_cons_zero]
          refine Lim.stepS 13 (fun _ => trivial) rfl (by kernel_rfl) (fun _ _ _ _ h => h) hC5 rfl ?_
          simp only [Act.put, List.setIfInBounds_toArray, List.set_cons_succ, List.set_cons_zero]
          refine Lim.stepS 14 (fun _ => trivial) rfl (by kernel_rfl) (fun _ _ _ _ h => h) hC5 rfl ?_
          simp only [Act.put, List.setIfInBounds_toArray, List.set_cons_succ, List.set_cons_zero]
          refine Lim.stepR 15 (fun _ => trivial) rfl (by kernel_rfl) (fun _ _ _ _ h => h) hC5 rfl ?_; apply Exists.intro; refine ⟨?_, ?_⟩
          · rintro w ⟨r1, r2⟩; go_simp; try with_reducible rfl
          simp only [Act.put, List.setIfInBounds_toArray, List.set_cons_succ, List.set_cons_zero]
          refine Lim.stepR 16 (fun _ => trivial) rfl (by kernel_rfl) (fun _ _ _ _ h => h) hC5 rfl ?_; apply Exists.intro; refine ⟨?_, ?_⟩
          · rintro w ⟨r1, r2⟩; go_simp; try with_reducible rfl
          simp only [Act.put, List.setIfInBounds_toArray, List.set_cons_succ, List.set_cons_zero]
          refine Lim.stepS 17 (fun _ => trivial) rfl (by kernel_rfl) (fun _ _ _ _ h => h) hC5 rfl ?_
          simp only [Act.put, List.setIfInBounds_toArray, List.set_cons_succ, List.set_cons_zero]
          refine Lim.stepS 18 (fun _ => trivial) rfl (by kernel_rfl) (fun _ _ _ _ h => h) hC5 rfl ?_
          simp only [Act.put, List.setIfInBounds_toArray, List.set_cons_succ, List.set_cons_zero]
          refine Lim.stepS 19 (fun _ => trivial) rfl (by kernel_rfl) (fun _ _ _ _ h => h) hC5 rfl ?_
          simp only [Act.put, List.setIfInBounds_toArray, List.set_cons_succ, List.set_cons_zero]
          refine Lim.stepS 20 (fun _ => trivial) rfl (by kernel_rfl) (fun _ _ _ _ h => h) hC5 rfl ?_
          simp only [Act.put, List.setIfInBounds_toArray, List.set_cons_succ, List.set_cons_zero]
          refine Lim.stepS 21 (fun _ => trivial) rfl (by kernel_rfl) (fun _ _ _ _ h => h) hC5 rfl ?_
          simp only [Act.put, List.setIfInBounds_toArray, List.set_cons_succ, List.set_cons_zero]
          refine Lim.stepS 22 (fun _ => trivial) rfl (by kernel_rfl) (fun _ _ _ _ h => h) hC5 rfl ?_
          simp only [Act.put, List.setIfInBounds_toArray, List.set_cons_succ, List.set_cons_zero]
          refine Lim.stepS 23 (fun _ => trivial) rfl (by kernel_rfl) (fun _ _ _ _ h => h) hC5 rfl ?_
          simp only [Act.put, List.setIfInBounds_toArray, List.set_cons_succ, List.set_cons_zero]
          refine Lim.stepS 24 (fun _ => trivial) rfl (by kernel_rfl) (fun _ _ _ _ h => h) hC5 rfl ?_
          simp only [Act.put, List.setIfInBounds_toArray, List.set_cons_succ, List.set_cons_zero]
          refine Lim.stepS 25 (fun _ => trivial) rfl (by kernel_rfl) (fun _ _ _ _ h => h) hC5 rfl ?_
          simp only [Act.put, List.setIfInBounds_toArray, List.set_cons_succ, List.set_cons_zero]
          refine Lim.stepS 26 (fun _ => trivial) rfl (by kernel_rfl) (fun _ _ _ _ h => h) hC5 rfl ?_
          simp only [Act.put, List.setIfInBounds_toArray, List.set_cons_succ, List.set_cons_zero]
          refine Lim.stepS 27 (fun _ => trivial) rfl (by kernel_rfl) (fun _ _ _ _ h => h) hC5 rfl ?_
          simp only [Act.put, List.setIfInBounds_toArray, List.set_cons_succ, List.set_cons_zero]
          refine Lim.stepR 28 (fun _ => trivial) rfl (by kernel_rfl) (fun _ _ _ _ h => h) hC5 rfl ?_; apply Exists.intro; refine ⟨?_, ?_⟩
          · rintro w ⟨r1, r2⟩; go_simp; try with_reducible rfl
          simp only [Act.put, List.setIfInBounds_toArray, List.set_cons_succ, List.set_cons_zero]
          refine Lim.stepR 29 (fun _ => trivial) rfl (by kernel_rfl) (fun _ _ _ _ h => h) hC5 rfl ?_; apply Exists.intro; refine ⟨?_, ?_⟩
          · rintro w ⟨r1, r2⟩; go_simp; try with_reducible rfl
          simp only [Act.put, List.setIfInBounds_toArray, List.set_cons_succ, List.set_cons_zero]
          refine Lim.stepS 30 (fun _ => trivial) rfl (by kernel_rfl) (fun _ _ _ _ h => h) hC5 rfl ?_
          simp only [Act.put, List.setIfInBounds_toArray, List.set_cons_succ, List.set_cons_zero]
          refine Lim.stepS 31 (fun _ => trivial) rfl (by kernel_rfl) (fun _ _ _ _ h => h) hC5 rfl ?_
          simp only [Act.put, List.setIfInBounds_toArray, List.set_cons_succ, List.set_cons_zero]
          refine Lim.stepS 32 (fun _ => trivial) rfl (by kernel_rfl) (fun _ _ _ _ h => h) hC5 rfl ?_
          simp only [Act.put, List.setIfInBounds_toArray, List.set_cons_succ, List.set_cons_zero]
          refine Lim.stepR 33 (fun _ => trivial) rfl (by kernel_rfl) (fun _ _ _ _ h => h) hC5 rfl ?_; apply Exists.intro; refine ⟨?_, ?_⟩
          · rintro w ⟨r1, r2⟩; go_simp; try with_reducible rfl
          simp only [Act.put, List.setIfInBounds_toArray, List.set_cons_succ, List.set_cons_zero]
          refine Lim.stepR 34 (fun _ => trivial) rfl (by kernel_rfl) (fun _ _ _ _ h => h) hC5 rfl ?_; apply Exists.intro; refine ⟨?_, ?_⟩
          · rintro w ⟨r1, r2⟩; go_simp; try with_reducible rfl
          simp only [Act.put, List.setIfInBounds_toArray, List.set_cons_succ, List.set_cons_zero]
          refine Lim.stepR 35 (fun _ => trivial) rfl (by kernel_rfl) (fun _ _ _ _ h => h) hC5 rfl ?_; apply Exists.intro; refine ⟨?_, ?_⟩
          · rintro w ⟨r1, r2⟩; go_simp; try with_reducible rfl
          simp only [Act.put, List.setIfInBounds_toArray, List.set_cons_succ, List.set_cons_zero]
          refine Lim.stepD (by kernel_rfl) ?_
          clear hC hC5
          go_wp2_with fail
          go_ret2
          exact HFIN.out false _ HB5.out ⟨fun h => (by cases h), fun h => (by have := (HLI.out.1 h).1; cases this)⟩
        | true =>
          have hN0 : 0 < N := by have h := HZ1.out; rw [goesB, ← HLN.out] at *; simp at h; omega
          obtain ⟨sa, sc, hse, hso⟩ := HRL.out
          obtain ⟨sb, so, rfl, hsb, hcell⟩ := hso (ints_ne (by rw [List.length_map, HLN.out]; exact hN0))
          cases hse
          obtain ⟨x0, hx0⟩ : ∃ x0, x0 = L.getD 0 0 := ⟨_, rfl⟩
          obtain ⟨xl, hxl⟩ : ∃ xl, xl = L.getD (L.length - 1) 0 := ⟨_, rfl⟩
          obtain ⟨l1, hl1⟩ : ∃ l1, l1 = N - 1 := ⟨_, rfl⟩
          have hw1 : IntKind.i64.wrap ((N : Int) - 1) = (l1 : Int) := by have := HLL.out; have := HLN.out; rw [IntWalk.i64_in _ (by omega)]; omega
          have y0 : w3.cell? ⟨sb, so, none⟩ = some (.int .i64 x0) := by
            have := hcell 0 (.int .i64 x0) (by simp [ints, hx0, List.getD_eq_getElem?_getD, HLN.out, hN0])
            simpa using this
          have yl : w3.cell? ⟨sb, so + l1, none⟩ = some (.int .i64 xl) := by
            refine hcell l1 (.int .i64 xl) ?_
            have : l1 < L.length := by rw [HLN.out]; omega
            have h9 : L[l1]? = some xl := by rw [hxl, List.getD_eq_getElem?_getD, HLN.out, ← hl1, List.getElem?_eq_getElem this]; rfl
            simp [ints, h9]
          have hx0n : x0 < m.n := by rw [hx0, List.getD_eq_getElem?_getD, List.getElem?_eq_getElem (by rw [HLN.out]; exact hN0)]; exact HLm.out _ (List.getElem_mem _)
          have hxln : xl < m.n := by rw [hxl, List.getD_eq_getElem?_getD, List.getElem?_eq_getElem (by rw [HLN.out]; omega)]; exact HLm.out _ (List.getElem_mem _)
          obtain ⟨rx, hrx⟩ : ∃ rx, rx = r x0 := ⟨_, rfl⟩
          have yr : w3.cell? ⟨g, x0, none⟩ = some (.int .i64 rx) := by rw [hrx]; exact HWK3.out.row.c x0 hx0n
          rw [← hx0, ← hxl, ← hrx] at HLI
          have HXN := Lib.hid (And.intro hx0n hxln)
          have hl1N : l1 < N := by omega
          have hx64 : (x0 : Int) < 100 := by have := HMO.out.2; omega
          have hC : (fun W => W.cell? ⟨q4, 0, none⟩ = some (.int .i64 m.wd) ∧ W.cell? ⟨q4, 1, none⟩ = some (.slice oa m.n oc) ∧ W.cell? ⟨qw, 0, none⟩ = some (.pointer (some ⟨b, 0, none⟩)) ∧ W.cell? ⟨b, 0, none⟩ = some (.int .i64 m.wd) ∧ W.cell? ⟨b, 1, none⟩ = some (.slice oa2 m.n oc2) ∧ W.cell? ⟨b, 2, none⟩ = some (.slice (some ⟨g, 0, none⟩) m.n m.n) ∧ W.cell? ⟨sb, so, none⟩ = some (.int .i64 x0) ∧ W.cell? ⟨sb, so + l1, none⟩ = some (.int .i64 xl) ∧ W.cell? ⟨g, x0, none⟩ = some (.int .i64 rx)) w3.drew := ⟨d0, d1, d3, o0, ho1, o2, y0, yl, yr⟩
          clear hx0 hxl hl1 hrx hcell hso hsb hxln HZ1
          by_cases hri : rx = i'
          · subst hri
            cases hrim : rimB m xl with
            | false =>
              rw [hrim] at HLI
              have hR := Lib.hid hrim
              clear hrim
              refine Lim.regC' (fun W => W.cell? ⟨q4, 0, none⟩ = some (.int .i64 m.wd) ∧ W.cell? ⟨q4, 1, none⟩ = some (.slice oa m.n oc) ∧ W.cell? ⟨qw, 0, none⟩ = some (.pointer (some ⟨b, 0, none⟩)) ∧ W.cell? ⟨b, 0, none⟩ = some (.int .i64 m.wd) ∧ W.cell? ⟨b, 1, none⟩ = some (.slice oa2 m.n oc2) ∧ W.cell? ⟨b, 2, none⟩ = some (.slice (some ⟨g, 0, none⟩) m.n m.n) ∧ W.cell? ⟨sb, so, none⟩ = some (.int .i64 x0) ∧ W.cell? ⟨sb, so + l1, none⟩ = some (.int .i64 xl) ∧ W.cell? ⟨g, x0, none⟩ = some (.int .i64 rx)) [] #[false, false, false, false, false, false, false, false, false, false, false, false, false, false, false, false, false, false, false, false, false, false, false, false, false, false, false, false, false, false, false, false, false, false, false, false] (by kernel_rfl) rfl ?_
              refine Lim.stepR 0 (fun _ => trivial) rfl (by kernel_rfl) (fun _ _ _ _ h => h) hC rfl ?_; apply Exists.intro; refine ⟨?_, ?_⟩
              · rintro w ⟨r1, r2, r3, r4, r5, r6, r7, r8, r9⟩; go_simp; try with_reducible rfl
              simp only [Act.put, List.setIfInBounds_toArray, List.set_cons_succ, List.set_cons_zero]
              refine Lim.stepR 1 (fun _ => trivial) rfl (by kernel_rfl) (fun _ _ _ _ h => h) hC rfl ?_; apply Exists.intro; refine ⟨?_, ?_⟩
              · rintro w ⟨r1, r2, r3, r4, r5, r6, r7, r8, r9⟩; go_simp; try with_reducible rfl
              simp only [Act.put, List.setIfInBounds_toArray, List.set_cons_succ, List.set_cons_zero]
              refine Lim.stepE 2 (fun _ => trivial) rfl (by kernel_rfl) rfl (fun K hK => ?_)   -- E call
              go_simp
              refine ⟨rfl, (callsIn_wide.2 HGO.out).mono ?_⟩
              rintro e w5 ⟨rfl, hb5⟩
              have HB5 := Lib.hid (HB3.out.trans (((Below.refl _ w3).drew.trans hb5).mono HB3.out.size))
              have hC5 : (fun W => W.cell? ⟨q4, 0, none⟩ = some (.int .i64 m.wd) ∧ W.cell? ⟨q4, 1, none⟩ = some (.slice oa m.n oc) ∧ W.cell? ⟨qw, 0, none⟩ = some (.pointer (some ⟨b, 0, none⟩)) ∧ W.cell? ⟨b, 0, none⟩ = some (.int .i64 m.wd) ∧ W.cell? ⟨b, 1, none⟩ = some (.slice oa2 m.n oc2) ∧ W.cell? ⟨b, 2, none⟩ = some (.slice (some ⟨g, 0, none⟩) m.n m.n) ∧ W.cell? ⟨sb, so, none⟩ = some (.int .i64 x0) ∧ W.cell? ⟨sb, so + l1, none⟩ = some (.int .i64 xl) ∧ W.cell? ⟨g, x0, none⟩ = some (.int .i64 rx)) w5 := ⟨hb5.on hC.1, hb5.on hC.2.1, hb5.on hC.2.2.1, hb5.on hC.2.2.2.1, hb5.on hC.2.2.2.2.1, hb5.on hC.2.2.2.2.2.1, hb5.on hC.2.2.2.2.2.2.1, hb5.on hC.2.2.2.2.2.2.2.1, hb5.on hC.2.2.2.2.2.2.2.2⟩
              refine hK _ _ hC5 ?_
              have hb5' := hb5
              clear hb5
              simp only [Act.put, List.setIfInBounds_toArray, List.set_cons_succ, List.set_cons_zero]
              refine Lim.stepR 3 (fun _ => trivial) rfl (by kernel_rfl) (fun _ _ _ _ h => h) hC5 rfl ?_; apply Exists.intro; refine ⟨?_, ?_⟩
              · rintro w ⟨r1, r2, r3, r4, r5, r6, r7, r8, r9⟩; go_simp; try with_reducible rfl
              simp only [Act.put, List.setIfInBounds_toArray, List.set_cons_succ, List.set_cons_zero]
              refine Lim.stepR 4 (fun _ => trivial) rfl (by kernel_rfl) (fun _ _ _ _ h => h) hC5 rfl ?_; apply Exists.intro; refine ⟨?_, ?_⟩
              · rintro w ⟨r1, r2, r3, r4, r5, r6, r7, r8, r9⟩; go_simp; try with_reducible rfl
              simp only [Act.put, List.setIfInBounds_toArray, List.set_cons_succ, List.set_cons_zero]
              refine Lim.stepR 5 (fun _ => trivial) rfl (by kernel_rfl) (fun _ _ _ _ h => h) hC5 rfl ?_; apply Exists.intro; refine ⟨?_, ?_⟩
              · rintro w ⟨r1, r2, r3, r4, r5, r6, r7, r8, r9⟩; go_simp; try with_reducible rfl
              simp only [Act.put, List.setIfInBounds_toArray, List.set_cons_succ, List.set_cons_zero]
              refine Lim.stepR 6 (fun _ => trivial) rfl (by kernel_rfl) (fun _ _ _ _ h => h) hC5 rfl ?_; apply Exists.intro; refine ⟨?_, ?_⟩
              · rintro w ⟨r1, r2, r3, r4, r5, r6, r7, r8, r9⟩; go_simp; try with_reducible rfl
              simp only [Act.put, List.setIfInBounds_toArray, List.set_cons_succ, List.set_cons_zero]
              refine Lim.stepR 7 (fun _ => trivial) rfl (by kernel_rfl) (fun _ _ _ _ h => h) hC5 rfl ?_; apply Exists.intro; refine ⟨?_, ?_⟩
              · rintro w ⟨r1, r2, r3, r4, r5, r6, r7, r8, r9⟩; go_simp; try with_reducible rfl
              simp only [Act.put, List.setIfInBounds_toArray, List.set_cons_succ, List.set_cons_zero]
              refine Lim.stepR 8 (fun _ => trivial) rfl (by kernel_rfl) (fun _ _ _ _ h => h) hC5 rfl ?_; apply Exists.intro; refine ⟨?_, ?_⟩
              · rintro w ⟨r1, r2, r3, r4, r5, r6, r7, r8, r9⟩; go_simp; try with_reducible rfl
              simp only [Act.put, List.setIfInBounds_toArray, List.set_cons_succ, List.set_cons_zero]
              refine Lim.stepR 9 (fun _ => trivial) rfl (by kernel_rfl) (fun _ _ _ _ h => h) hC5 rfl ?_; apply Exists.intro; refine ⟨?_, ?_⟩
              · rintro w ⟨r1, r2, r3, r4, r5, r6, r7, r8, r9⟩; go_simp; try with_reducible rfl
              simp only [Act.put, List.setIfInBounds_toArray, List.set_cons_succ, List.set_cons_zero]
              refine Lim.stepR 10 (fun _ => trivial) rfl (by kernel_rfl) (fun _ _ _ _ h => h) hC5 rfl ?_; apply Exists.intro; refine ⟨?_, ?_⟩
              · rintro w ⟨r1, r2, r3, r4, r5, r6, r7, r8, r9⟩; go_simp; try with_reducible rfl
              simp only [Act.put, List.setIfInBounds_toArray, List.set_cons_succ, List.set_cons_zero]
              refine Lim.stepR 11 (fun _ => trivial) rfl (by kernel_rfl) (fun _ _ _ _ h => h) hC5 rfl ?_; apply Exists.intro; refine ⟨?_, ?_⟩
              · rintro w ⟨r1, r2, r3, r4, r5, r6, r7, r8, r9⟩; go_simp; try with_reducible rfl
              simp only [Act.put, List.setIfInBounds_toArray, List.set_cons_succ, List.set_cons_zero]
              refine Lim.stepR 12 (fun _ => trivial) rfl (by kernel_rfl) (fun _ _ _ _ h => h) hC5 rfl ?_; apply Exists.intro; refine ⟨?_, ?_⟩
              · rintro w ⟨r1, r2, r3, r4, r5, r6, r7, r8, r9⟩; go_simp; try with_reducible rfl
              simp only [Act.put, List.setIfInBounds_toArray, List.set_cons_succ, List.set_cons_zero]
              refine Lim.stepR 13 (fun _ => trivial) rfl (by kernel_rfl) (fun _ _ _ _ h => h) hC5 rfl ?_; apply Exists.intro; refine ⟨?_, ?_⟩
              · rintro w ⟨r1, r2, r3, r4, r5, r6, r7, r8, r9⟩; go_simp; try with_reducible rfl
              simp only [Act.put, List.setIfInBounds_toArray, List.set_cons_succ, List.set_cons_zero]
              refine Lim.stepR 14 (fun _ => trivial) rfl (by kernel_rfl) (fun _ _ _ _ h => h) hC5 rfl ?_; apply Exists.intro; refine ⟨?_, ?_⟩
              · rintro w ⟨r1, r2, r3, r4, r5, r6, r7, r8, r9⟩; go_simp; try with_reducible rfl
              simp only [Act.put, List.setIfInBounds_toArray, List.set_cons_succ, List.set_cons_zero]
              refine Lim.stepR 15 (fun _ => trivial) rfl (by kernel_rfl) (fun _ _ _ _ h => h) hC5 rfl ?_; apply Exists.intro; refine ⟨?_, ?_⟩
              · rintro w ⟨r1, r2, r3, r4, r5, r6, r7, r8, r9⟩; go_simp; try with_reducible rfl
              simp only [Act.put, List.setIfInBounds_toArray, List.set_cons_succ, List.set_cons_zero]
              refine Lim.stepR 16 (fun _ => trivial) rfl (by kernel_rfl) (fun _ _ _ _ h => h) hC5 rfl ?_; apply Exists.intro; refine ⟨?_, ?_⟩
              · rintro w ⟨r1, r2, r3, r4, r5, r6, r7, r8, r9⟩; go_simp; try with_reducible rfl
              simp only [Act.put, List.setIfInBounds_toArray, List.set_cons_succ, List.set_cons_zero]
              refine Lim.stepR 17 (fun _ => trivial) rfl (by kernel_rfl) (fun _ _ _ _ h => h) hC5 rfl ?_; apply Exists.intro; refine ⟨?_, ?_⟩
              · rintro w ⟨r1, r2, r3, r4, r5, r6, r7, r8, r9⟩; go_simp; try with_reducible rfl
              simp only [Act.put, List.setIfInBounds_toArray, List.set_cons_succ, List.set_cons_zero]
              refine Lim.stepR 18 (fun _ => trivial) rfl (by kernel_rfl) (fun _ _ _ _ h => h) hC5 rfl ?_; apply Exists.intro; refine ⟨?_, ?_⟩
              · rintro w ⟨r1, r2, r3, r4, r5, r6, r7, r8, r9⟩; go_simp; try with_reducible rfl
              simp only [Act.put, List.setIfInBounds_toArray, List.set_cons_succ, List.set_cons_zero]
              refine Lim.stepR 19 (fun _ => trivial) rfl (by kernel_rfl) (fun _ _ _ _ h => h) hC5 rfl ?_; apply Exists.intro; refine ⟨?_, ?_⟩
              · rintro w ⟨r1, r2, r3, r4, r5, r6, r7, r8, r9⟩; go_simp; try with_reducible rfl
              simp only [Act.put, List.setIfInBounds_toArray, List.set_cons_succ, List.set_cons_zero]
              refine Lim.stepR 20 (fun _ => trivial) rfl (by kernel_rfl) (fun _ _ _ _ h => h) hC5 rfl ?_; apply Exists.intro; refine ⟨?_, ?_⟩
              · rintro w ⟨r1, r2, r3, r4, r5, r6, r7, r8, r9⟩; go_simp; try with_reducible rfl
              simp only [Act.put, List.setIfInBounds_toArray, List.set_cons_succ, List.set_cons_zero]
              refine Lim.stepR 21 (fun _ => trivial) rfl (by kernel_rfl) (fun _ _ _ _ h => h) hC5 rfl ?_; apply Exists.intro; refine ⟨?_, ?_⟩
              · rintro w ⟨r1, r2, r3, r4, r5, r6, r7, r8, r9⟩; go_simp; try with_reducible rfl
              simp only [Act.put, List.setIfInBounds_toArray, List.set_cons_succ, List.set_cons_zero]
              refine Lim.stepR 22 (fun _ => trivial) rfl (by kernel_rfl) (fun _ _ _ _ h => h) hC5 rfl ?_; apply Exists.intro; refine ⟨?_, ?_⟩
              · rintro w ⟨r1, r2, r3, r4, r5, r6, r7, r8, r9⟩; go_simp; try with_reducible rfl
              simp only [Act.put, List.setIfInBounds_toArray, List.set_cons_succ, List.set_cons_zero]
              refine Lim.stepR 23 (fun _ => trivial) rfl (by kernel_rfl) (fun _ _ _ _ h => h) hC5 rfl ?_; apply Exists.intro; refine ⟨?_, ?_⟩
              · rintro w ⟨r1, r2, r3, r4, r5, r6, r7, r8, r9⟩; go_simp; try with_reducible rfl
              simp only [Act.put, List.setIfInBounds_toArray, List.set_cons_succ, List.set_cons_zero]
              refine Lim.stepR 24 (fun _ => trivial) rfl (by kernel_rfl) (fun _ _ _ _ h => h) hC5 rfl ?_; apply Exists.intro; refine ⟨?_, ?_⟩
              · rintro w ⟨r1, r2, r3, r4, r5, r6, r7, r8, r9⟩; go_simp; try with_reducible rfl
              simp only [Act.put, List.setIfInBounds_toArray, List.set_cons_succ, List.set_cons_zero]
              refine Lim.stepR 25 (fun _ => trivial) rfl (by kernel_rfl) (fun _ _ _ _ h => h) hC5 rfl ?_; apply Exists.intro; refine ⟨?_, ?_⟩
              · rintro w ⟨r1, r2, r3, r4, r5, r6, r7, r8, r9⟩; go_simp; try with_reducible rfl
              simp only [Act.put, List.setIfInBounds_toArray, List.set_cons_succ, List.set_cons_zero]
              refine Lim.stepR 26 (fun _ => trivial) rfl (by kernel_rfl) (fun _ _ _ _ h => h) hC5 rfl ?_; apply Exists.intro; refine ⟨?_, ?_⟩
              · rintro w ⟨r1, r2, r3, r4, r5, r6, r7, r8, r9⟩; go_simp; try with_reducible rfl
              simp only [Act.put, List.setIfInBounds_toArray, List.set_cons_succ, List.set_cons_zero]
              refine Lim.stepE 27 (fun _ => trivial) rfl (by kernel_rfl) rfl (fun K hK => ?_)   -- E call
              go_simp
              refine ⟨rfl, (callsIn_wide.2 (rim_map (c := oc2) (a := oa2) (w := w5) HMO.out.1 HXN.out.2)).mono ?_⟩
              rintro e w7 ⟨rfl, hb7⟩
              rw [hR.out]
              have HB7 := Lib.hid (HB5.out.trans (hb7.mono HB5.out.size))
              have HB37 := Lib.hid ((((Below.refl _ w3).drew.trans hb5').trans (hb7.mono (show w3.heap.size ≤ w5.heap.size from hb5'.size))))
              have hC7 : (fun W => W.cell? ⟨q4, 0, none⟩ = some (.int .i64 m.wd) ∧ W.cell? ⟨q4, 1, none⟩ = some (.slice oa m.n oc) ∧ W.cell? ⟨qw, 0, none⟩ = some (.pointer (some ⟨b, 0, none⟩)) ∧ W.cell? ⟨b, 0, none⟩ = some (.int .i64 m.wd) ∧ W.cell? ⟨b, 1, none⟩ = some (.slice oa2 m.n oc2) ∧ W.cell? ⟨b, 2, none⟩ = some (.slice (some ⟨g, 0, none⟩) m.n m.n) ∧ W.cell? ⟨sb, so, none⟩ = some (.int .i64 x0) ∧ W.cell? ⟨sb, so + l1, none⟩ = some (.int .i64 xl) ∧ W.cell? ⟨g, x0, none⟩ = some (.int .i64 rx)) w7 := ⟨hb7.on hC5.1, hb7.on hC5.2.1, hb7.on hC5.2.2.1, hb7.on hC5.2.2.2.1, hb7.on hC5.2.2.2.2.1, hb7.on hC5.2.2.2.2.2.1, hb7.on hC5.2.2.2.2.2.2.1, hb7.on hC5.2.2.2.2.2.2.2.1, hb7.on hC5.2.2.2.2.2.2.2.2⟩
              refine hK _ _ hC7 ?_
              clear hb7
              simp only [Act.put, List.setIfInBounds_toArray, List.set_cons_succ, List.set_cons_zero]
              refine Lim.stepR 28 (fun _ => trivial) rfl (by kernel_rfl) (fun _ _ _ _ h => h) hC7 rfl ?_; apply Exists.intro; refine ⟨?_, ?_⟩
              · rintro w ⟨r1, r2, r3, r4, r5, r6, r7, r8, r9⟩; go_simp; try with_reducible rfl
              simp only [Act.put, List.setIfInBounds_toArray, List.set_cons_succ, List.set_cons_zero]
              refine Lim.stepR 29 (fun _ => trivial) rfl (by kernel_rfl) (fun _ _ _ _ h => h) hC7 rfl ?_; apply Exists.intro; refine ⟨?_, ?_⟩
              · rintro w ⟨r1, r2, r3, r4, r5, r6, r7, r8, r9⟩; go_simp; try with_reducible rfl
              simp only [Act.put, List.setIfInBounds_toArray, List.set_cons_succ, List.set_cons_zero]
              refine Lim.stepS 30 (fun _ => trivial) rfl (by kernel_rfl) (fun _ _ _ _ h => h) hC7 rfl ?_
              simp only [Act.put, List.setIfInBounds_toArray, List.set_cons_succ, List.set_cons_zero]
              refine Lim.stepS 31 (fun _ => trivial) rfl (by kernel_rfl) (fun _ _ _ _ h => h) hC7 rfl ?_
              simp only [Act.put, List.setIfInBounds_toArray, List.set_cons_succ, List.set_cons_zero]
              refine Lim.stepS 32 (fun _ => trivial) rfl (by kernel_rfl) (fun _ _ _ _ h => h) hC7 rfl ?_
              simp only [Act.put, List.setIfInBounds_toArray, List.set_cons_succ, List.set_cons_zero]
              refine Lim.stepR 33 (fun _ => trivial) rfl (by kernel_rfl) (fun _ _ _ _ h => h) hC7 rfl ?_; apply Exists.intro; refine ⟨?_, ?_⟩
              · rintro w ⟨r1, r2, r3, r4, r5, r6, r7, r8, r9⟩; go_simp; try with_reducible rfl
              simp only [Act.put, List.setIfInBounds_toArray, List.set_cons_succ, List.set_cons_zero]
              refine Lim.stepR 34 (fun _ => trivial) rfl (by kernel_rfl) (fun _ _ _ _ h => h) hC7 rfl ?_; apply Exists.intro; refine ⟨?_, ?_⟩
              · rintro w ⟨r1, r2, r3, r4, r5, r6, r7, r8, r9⟩; go_simp; try with_reducible rfl
              simp only [Act.put, List.setIfInBounds_toArray, List.set_cons_succ, List.set_cons_zero]
              refine Lim.stepR 35 (fun _ => trivial) rfl (by kernel_rfl) (fun _ _ _ _ h => h) hC7 rfl ?_; apply Exists.intro; refine ⟨?_, ?_⟩
              · rintro w ⟨r1, r2, r3, r4, r5, r6, r7, r8, r9⟩; go_simp; try with_reducible rfl
              simp only [Act.put, List.setIfInBounds_toArray, List.set_cons_succ, List.set_cons_zero]
              refine Lim.stepD (by kernel_rfl) ?_
              clear hC hC5 hC7
              go_wp2_with fail
              go_ret2
              exact HFIN.out false _ HB7.out ⟨fun h => (by cases h), fun h => by have := (HLI.out.1 h).2.2.1; cases this⟩
            | true =>
              rw [hrim] at HLI
              have hR := Lib.hid hrim
              have HEV := Lib.hid (fun (W : World) (hb : Below w3.heap.size w3 W) => every_any (B := B) (p := fun k => neB (r (L.getD k 0)) j') (lb := #[.pointer (some ⟨qw, 0, none⟩), .pointer (some ⟨q6, 0, none⟩)]) (v := .slice (some ⟨sb, so, none⟩) N xc) (xs := L.map Int.ofNat) (w := W) (enters_of Try.func72 (by kernel_rfl) rfl) (by rw [List.length_map]; exact HLL.out) (by have h9 := HRL.out.below (hb.mono (show B ≤ w3.heap.size by have := HB3.out.size; have := HS.out.2; omega)); rw [show (L.map Int.ofNat).length = N by rw [List.length_map]; exact HLN.out]; exact h9) (by have := hb.size; have := HB3.out.size; have := HS.out.2; omega) (fun k hk W' hb' => by
                have hk : k < L.length := by simpa using hk
                have e : (L.map Int.ofNat).getD k 0 = ((L.getD k 0 : Nat) : Int) := by simp [List.getD_eq_getElem?_getD, hk]
                dsimp only
                rw [e]
                have hb2 : Below w3.heap.size w3 W' := hb.trans (hb'.mono hb.size)
                have hkn : L.getD k 0 < m.n := by rw [List.getD_eq_getElem?_getD, List.getElem?_eq_getElem hk]; exact HLm.out _ (List.getElem_mem _)
                exact leads2_any HMO.out.2 hkn (hb2.on d3) (hb2.on o2) (hb2.on (HWK3.out.row.c _ hkn)) (hb2.on d2)))
              clear hrim
              refine Lim.regC' (fun W => W.cell? ⟨q4, 0, none⟩ = some (.int .i64 m.wd) ∧ W.cell? ⟨q4, 1, none⟩ = some (.slice oa m.n oc) ∧ W.cell? ⟨qw, 0, none⟩ = some (.pointer (some ⟨b, 0, none⟩)) ∧ W.cell? ⟨b, 0, none⟩ = some (.int .i64 m.wd) ∧ W.cell? ⟨b, 1, none⟩ = some (.slice oa2 m.n oc2) ∧ W.cell? ⟨b, 2, none⟩ = some (.slice (some ⟨g, 0, none⟩) m.n m.n) ∧ W.cell? ⟨sb, so, none⟩ = some (.int .i64 x0) ∧ W.cell? ⟨sb, so + l1, none⟩ = some (.int .i64 xl) ∧ W.cell? ⟨g, x0, none⟩ = some (.int .i64 rx)) [] #[false, false, false, false, false, false, false, false, false, false, false, false, false, false, false, false, false, false, false, false, false, false, false, false, false, false, false, false, false, false, false, false, false, false, false, false] (by kernel_rfl) rfl ?_
              refine Lim.stepR 0 (fun _ => trivial) rfl (by kernel_rfl) (fun _ _ _ _ h => h) hC rfl ?_; apply Exists.intro; refine ⟨?_, ?_⟩
              · rintro w ⟨r1, r2, r3, r4, r5, r6, r7, r8, r9⟩; go_simp; try with_reducible rfl
              simp only [Act.put, List.setIfInBounds_toArray, List.set_cons_succ, List.set_cons_zero]
              refine Lim.stepR 1 (fun _ => trivial) rfl (by kernel_rfl) (fun _ _ _ _ h => h) hC rfl ?_; apply Exists.intro; refine ⟨?_, ?_⟩
              · rintro w ⟨r1, r2, r3, r4, r5, r6, r7, r8, r9⟩; go_simp; try with_reducible rfl
              simp only [Act.put, List.setIfInBounds_toArray, List.set_cons_succ, List.set_cons_zero]
              refine Lim.stepE 2 (fun _ => trivial) rfl (by kernel_rfl) rfl (fun K hK => ?_)   -- E call
              go_simp
              refine ⟨rfl, (callsIn_wide.2 HGO.out).mono ?_⟩
              rintro e w5 ⟨rfl, hb5⟩
              have HB5 := Lib.hid (HB3.out.trans (((Below.refl _ w3).drew.trans hb5).mono HB3.out.size))
              have hC5 : (fun W => W.cell? ⟨q4, 0, none⟩ = some (.int .i64 m.wd) ∧ W.cell? ⟨q4, 1, none⟩ = some (.slice oa m.n oc) ∧ W.cell? ⟨qw, 0, none⟩ = some (.pointer (some ⟨b, 0, none⟩)) ∧ W.cell? ⟨b, 0, none⟩ = some (.int .i64 m.wd) ∧ W.cell? ⟨b, 1, none⟩ = some (.slice oa2 m.n oc2) ∧ W.cell? ⟨b, 2, none⟩ = some (.slice (some ⟨g, 0, none⟩) m.n m.n) ∧ W.cell? ⟨sb, so, none⟩ = some (.int .i64 x0) ∧ W.cell? ⟨sb, so + l1, none⟩ = some (.int .i64 xl) ∧ W.cell? ⟨g, x0, none⟩ = some (.int .i64 rx)) w5 := ⟨hb5.on hC.1, hb5.on hC.2.1, hb5.on hC.2.2.1, hb5.on hC.2.2.2.1, hb5.on hC.2.2.2.2.1, hb5.on hC.2.2.2.2.2.1, hb5.on hC.2.2.2.2.2.2.1, hb5.on hC.2.2.2.2.2.2.2.1, hb5.on hC.2.2.2.2.2.2.2.2⟩
              refine hK _ _ hC5 ?_
              have hb5' := hb5
              clear hb5
              simp only [Act.put, List.setIfInBounds_toArray, List.set_cons_succ, List.set_cons_zero]
              refine Lim.stepR 3 (fun _ => trivial) rfl (by kernel_rfl) (fun _ _ _ _ h => h) hC5 rfl ?_; apply Exists.intro; refine ⟨?_, ?_⟩
              · rintro w ⟨r1, r2, r3, r4, r5, r6, r7, r8, r9⟩; go_simp; try with_reducible rfl
              simp only [Act.put, List.setIfInBounds_toArray, List.set_cons_succ, List.set_cons_zero]
              refine Lim.stepR 4 (fun _ => trivial) rfl (by kernel_rfl) (fun _ _ _ _ h => h) hC5 rfl ?_; apply Exists.intro; refine ⟨?_, ?_⟩
              · rintro w ⟨r1, r2, r3, r4, r5, r6, r7, r8, r9⟩; go_simp; try with_reducible rfl
              simp only [Act.put, List.setIfInBounds_toArray, List.set_cons_succ, List.set_cons_zero]
              refine Lim.stepR 5 (fun _ => trivial) rfl (by kernel_rfl) (fun _ _ _ _ h => h) hC5 rfl ?_; apply Exists.intro; refine ⟨?_, ?_⟩
              · rintro w ⟨r1, r2, r3, r4, r5, r6, r7, r8, r9⟩; go_simp; try with_reducible rfl
              simp only [Act.put, List.setIfInBounds_toArray, List.set_cons_succ, List.set_cons_zero]
              refine Lim.stepR 6 (fun _ => trivial) rfl (by kernel_rfl) (fun _ _ _ _ h => h) hC5 rfl ?_; apply Exists.intro; refine ⟨?_, ?_⟩
              · rintro w ⟨r1, r2, r3, r4, r5, r6, r7, r8, r9⟩; go_simp; try with_reducible rfl
              simp only [Act.put, List.setIfInBounds_toArray, List.set_cons_succ, List.set_cons_zero]
              refine Lim.stepR 7 (fun _ => trivial) rfl (by kernel_rfl) (fun _ _ _ _ h => h) hC5 rfl ?_; apply Exists.intro; refine ⟨?_, ?_⟩
              · rintro w ⟨r1, r2, r3, r4, r5, r6, r7, r8, r9⟩; go_simp; try with_reducible rfl
              simp only [Act.put, List.setIfInBounds_toArray, List.set_cons_succ, List.set_cons_zero]
              refine Lim.stepR 8 (fun _ => trivial) rfl (by kernel_rfl) (fun _ _ _ _ h => h) hC5 rfl ?_; apply Exists.intro; refine ⟨?_, ?_⟩
              · rintro w ⟨r1, r2, r3, r4, r5, r6, r7, r8, r9⟩; go_simp; try with_reducible rfl
              simp only [Act.put, List.setIfInBounds_toArray, List.set_cons_succ, List.set_cons_zero]
              refine Lim.stepR 9 (fun _ => trivial) rfl (by kernel_rfl) (fun _ _ _ _ h => h) hC5 rfl ?_; apply Exists.intro; refine ⟨?_, ?_⟩
              · rintro w ⟨r1, r2, r3, r4, r5, r6, r7, r8, r9⟩; go_simp; try with_reducible rfl
              simp only [Act.put, List.setIfInBounds_toArray, List.set_cons_succ, List.set_cons_zero]
              refine Lim.stepR 10 (fun _ => trivial) rfl (by kernel_rfl) (fun _ _ _ _ h => h) hC5 rfl ?_; apply Exists.intro; refine ⟨?_, ?_⟩
              · rintro w ⟨r1, r2, r3, r4, r5, r6, r7, r8, r9⟩; go_simp; try with_reducible rfl
              simp only [Act.put, List.setIfInBounds_toArray, List.set_cons_succ, List.set_cons_zero]
              refine Lim.stepR 11 (fun _ => trivial) rfl (by kernel_rfl) (fun _ _ _ _ h => h) hC5 rfl ?_; apply Exists.intro; refine ⟨?_, ?_⟩
              · rintro w ⟨r1, r2, r3, r4, r5, r6, r7, r8, r9⟩; go_simp; try with_reducible rfl
              simp only [Act.put, List.setIfInBounds_toArray, List.set_cons_succ, List.set_cons_zero]
              refine Lim.stepR 12 (fun _ => trivial) rfl (by kernel_rfl) (fun _ _ _ _ h => h) hC5 rfl ?_; apply Exists.intro; refine ⟨?_, ?_⟩
              · rintro w ⟨r1, r2, r3, r4, r5, r6, r7, r8, r9⟩; go_simp; try with_reducible rfl
              simp only [Act.put, List.setIfInBounds_toArray, List.set_cons_succ, List.set_cons_zero]
              refine Lim.stepR 13 (fun _ => trivial) rfl (by kernel_rfl) (fun _ _ _ _ h => h) hC5 rfl ?_; apply Exists.intro; refine ⟨?_, ?_⟩
              · rintro w ⟨r1, r2, r3, r4, r5, r6, r7, r8, r9⟩; go_simp; try with_reducible rfl
              simp only [Act.put, List.setIfInBounds_toArray, List.set_cons_succ, List.set_cons_zero]
              refine Lim.stepR 14 (fun _ => trivial) rfl (by kernel_rfl) (fun _ _ _ _ h => h) hC5 rfl ?_; apply Exists.intro; refine ⟨?_, ?_⟩
              · rintro w ⟨r1, r2, r3, r4, r5, r6, r7, r8, r9⟩; go_simp; try with_reducible rfl
              simp only [Act.put, List.setIfInBounds_toArray, List.set_cons_succ, List.set_cons_zero]
              refine Lim.stepR 15 (fun _ => trivial) rfl (by kernel_rfl) (fun _ _ _ _ h => h) hC5 rfl ?_; apply Exists.intro; refine ⟨?_, ?_⟩
              · rintro w ⟨r1, r2, r3, r4, r5, r6, r7, r8, r9⟩; go_simp; try with_reducible rfl
              simp only [Act.put, List.setIfInBounds_toArray, List.set_cons_succ, List.set_cons_zero]
              refine Lim.stepR 16 (fun _ => trivial) rfl (by kernel_rfl) (fun _ _ _ _ h => h) hC5 rfl ?_; apply Exists.intro; refine ⟨?_, ?_⟩
              · rintro w ⟨r1, r2, r3, r4, r5, r6, r7, r8, r9⟩; go_simp; try with_reducible rfl
              simp only [Act.put, List.setIfInBounds_toArray, List.set_cons_succ, List.set_cons_zero]
              refine Lim.stepR 17 (fun _ => trivial) rfl (by kernel_rfl) (fun _ _ _ _ h => h) hC5 rfl ?_; apply Exists.intro; refine ⟨?_, ?_⟩
              · rintro w ⟨r1, r2, r3, r4, r5, r6, r7, r8, r9⟩; go_simp; try with_reducible rfl
              simp only [Act.put, List.setIfInBounds_toArray, List.set_cons_succ, List.set_cons_zero]
              refine Lim.stepR 18 (fun _ => trivial) rfl (by kernel_rfl) (fun _ _ _ _ h => h) hC5 rfl ?_; apply Exists.intro; refine ⟨?_, ?_⟩
              · rintro w ⟨r1, r2, r3, r4, r5, r6, r7, r8, r9⟩; go_simp; try with_reducible rfl
              simp only [Act.put, List.setIfInBounds_toArray, List.set_cons_succ, List.set_cons_zero]
              refine Lim.stepR 19 (fun _ => trivial) rfl (by kernel_rfl) (fun _ _ _ _ h => h) hC5 rfl ?_; apply Exists.intro; refine ⟨?_, ?_⟩
              · rintro w ⟨r1, r2, r3, r4, r5, r6, r7, r8, r9⟩; go_simp; try with_reducible rfl
              simp only [Act.put, List.setIfInBounds_toArray, List.set_cons_succ, List.set_cons_zero]
              refine Lim.stepR 20 (fun _ => trivial) rfl (by kernel_rfl) (fun _ _ _ _ h => h) hC5 rfl ?_; apply Exists.intro; refine ⟨?_, ?_⟩
              · rintro w ⟨r1, r2, r3, r4, r5, r6, r7, r8, r9⟩; go_simp; try with_reducible rfl
              simp only [Act.put, List.setIfInBounds_toArray, List.set_cons_succ, List.set_cons_zero]
              refine Lim.stepR 21 (fun _ => trivial) rfl (by kernel_rfl) (fun _ _ _ _ h => h) hC5 rfl ?_; apply Exists.intro; refine ⟨?_, ?_⟩
              · rintro w ⟨r1, r2, r3, r4, r5, r6, r7, r8, r9⟩; go_simp; try with_reducible rfl
              simp only [Act.put, List.setIfInBounds_toArray, List.set_cons_succ, List.set_cons_zero]
              refine Lim.stepR 22 (fun _ => trivial) rfl (by kernel_rfl) (fun _ _ _ _ h => h) hC5 rfl ?_; apply Exists.intro; refine ⟨?_, ?_⟩
              · rintro w ⟨r1, r2, r3, r4, r5, r6, r7, r8, r9⟩; go_simp; try with_reducible rfl
              simp only [Act.put, List.setIfInBounds_toArray, List.set_cons_succ, List.set_cons_zero]
              refine Lim.stepR 23 (fun _ => trivial) rfl (by kernel_rfl) (fun _ _ _ _ h => h) hC5 rfl ?_; apply Exists.intro; refine ⟨?_, ?_⟩
              · rintro w ⟨r1, r2, r3, r4, r5, r6, r7, r8, r9⟩; go_simp; try with_reducible rfl
              simp only [Act.put, List.setIfInBounds_toArray, List.set_cons_succ, List.set_cons_zero]
              refine Lim.stepR 24 (fun _ => trivial) rfl (by kernel_rfl) (fun _ _ _ _ h => h) hC5 rfl ?_; apply Exists.intro; refine ⟨?_, ?_⟩
              · rintro w ⟨r1, r2, r3, r4, r5, r6, r7, r8, r9⟩; go_simp; try with_reducible rfl
              simp only [Act.put, List.setIfInBounds_toArray, List.set_cons_succ, List.set_cons_zero]
              refine Lim.stepR 25 (fun _ => trivial) rfl (by kernel_rfl) (fun _ _ _ _ h => h) hC5 rfl ?_; apply Exists.intro; refine ⟨?_, ?_⟩
              · rintro w ⟨r1, r2, r3, r4, r5, r6, r7, r8, r9⟩; go_simp; try with_reducible rfl
              simp only [Act.put, List.setIfInBounds_toArray, List.set_cons_succ, List.set_cons_zero]
              refine Lim.stepR 26 (fun _ => trivial) rfl (by kernel_rfl) (fun _ _ _ _ h => h) hC5 rfl ?_; apply Exists.intro; refine ⟨?_, ?_⟩
              · rintro w ⟨r1, r2, r3, r4, r5, r6, r7, r8, r9⟩; go_simp; try with_reducible rfl
              simp only [Act.put, List.setIfInBounds_toArray, List.set_cons_succ, List.set_cons_zero]
              refine Lim.stepE 27 (fun _ => trivial) rfl (by kernel_rfl) rfl (fun K hK => ?_)   -- E call
              go_simp
              refine ⟨rfl, (callsIn_wide.2 (rim_map (c := oc2) (a := oa2) (w := w5) HMO.out.1 HXN.out.2)).mono ?_⟩
              rintro e w7 ⟨rfl, hb7⟩
              rw [hR.out]
              have HB7 := Lib.hid (HB5.out.trans (hb7.mono HB5.out.size))
              have HB37 := Lib.hid ((((Below.refl _ w3).drew.trans hb5').trans (hb7.mono (show w3.heap.size ≤ w5.heap.size from hb5'.size))))
              have hC7 : (fun W => W.cell? ⟨q4, 0, none⟩ = some (.int .i64 m.wd) ∧ W.cell? ⟨q4, 1, none⟩ = some (.slice oa m.n oc) ∧ W.cell? ⟨qw, 0, none⟩ = some (.pointer (some ⟨b, 0, none⟩)) ∧ W.cell? ⟨b, 0, none⟩ = some (.int .i64 m.wd) ∧ W.cell? ⟨b, 1, none⟩ = some (.slice oa2 m.n oc2) ∧ W.cell? ⟨b, 2, none⟩ = some (.slice (some ⟨g, 0, none⟩) m.n m.n) ∧ W.cell? ⟨sb, so, none⟩ = some (.int .i64 x0) ∧ W.cell? ⟨sb, so + l1, none⟩ = some (.int .i64 xl) ∧ W.cell? ⟨g, x0, none⟩ = some (.int .i64 rx)) w7 := ⟨hb7.on hC5.1, hb7.on hC5.2.1, hb7.on hC5.2.2.1, hb7.on hC5.2.2.2.1, hb7.on hC5.2.2.2.2.1, hb7.on hC5.2.2.2.2.2.1, hb7.on hC5.2.2.2.2.2.2.1, hb7.on hC5.2.2.2.2.2.2.2.1, hb7.on hC5.2.2.2.2.2.2.2.2⟩
              refine hK _ _ hC7 ?_
              clear hb7
              simp only [Act.put, List.setIfInBounds_toArray, List.set_cons_succ, List.set_cons_zero]
              refine Lim.stepR 28 (fun _ => trivial) rfl (by kernel_rfl) (fun _ _ _ _ h => h) hC7 rfl ?_; apply Exists.intro; refine ⟨?_, ?_⟩
              · rintro w ⟨r1, r2, r3, r4, r5, r6, r7, r8, r9⟩; go_simp; try with_reducible rfl
              simp only [Act.put, List.setIfInBounds_toArray, List.set_cons_succ, List.set_cons_zero]
              refine Lim.stepR 29 (fun _ => trivial) rfl (by kernel_rfl) (fun _ _ _ _ h => h) hC7 rfl ?_; apply Exists.intro; refine ⟨?_, ?_⟩
              · rintro w ⟨r1, r2, r3, r4, r5, r6, r7, r8, r9⟩; go_simp; try with_reducible rfl
              simp only [Act.put, List.setIfInBounds_toArray, List.set_cons_succ, List.set_cons_zero]
              refine Lim.stepR 30 (fun _ => trivial) rfl (by kernel_rfl) (fun _ _ _ _ h => h) hC7 rfl ?_; apply Exists.intro; refine ⟨?_, ?_⟩
              · rintro w ⟨r1, r2, r3, r4, r5, r6, r7, r8, r9⟩; go_simp; try with_reducible rfl
              simp only [Act.put, List.setIfInBounds_toArray, List.set_cons_succ, List.set_cons_zero]
              refine Lim.stepR 31 (fun _ => trivial) rfl (by kernel_rfl) (fun _ _ _ _ h => h) hC7 rfl ?_; apply Exists.intro; refine ⟨?_, ?_⟩
              · rintro w ⟨r1, r2, r3, r4, r5, r6, r7, r8, r9⟩; go_simp; try with_reducible rfl
              simp only [Act.put, List.setIfInBounds_toArray, List.set_cons_succ, List.set_cons_zero]
              refine Lim.stepE 32 (fun _ => trivial) rfl (by kernel_rfl) rfl (fun K hK => ?_)   -- E call
              have HC8 := HEV.out w7 HB37.out
              obtain ⟨z4, hz4⟩ : ∃ z4, z4 = (List.range (L.map Int.ofNat).length).all fun k => neB (r (L.getD k 0)) j' := ⟨_, rfl⟩
              rw [← hz4] at HC8
              have HC9 := Lib.hid HC8
              have HZ4 := Lib.hid hz4
              clear HC8 hz4
              go_simp
              refine ⟨rfl, (callsIn_wide.2 HC9.out).mono ?_⟩
              rintro e w8 ⟨rfl, hb8⟩
              have HB8 := Lib.hid (HB7.out.trans (hb8.mono HB7.out.size))
              have hC8 : (fun W => W.cell? ⟨q4, 0, none⟩ = some (.int .i64 m.wd) ∧ W.cell? ⟨q4, 1, none⟩ = some (.slice oa m.n oc) ∧ W.cell? ⟨qw, 0, none⟩ = some (.pointer (some ⟨b, 0, none⟩)) ∧ W.cell? ⟨b, 0, none⟩ = some (.int .i64 m.wd) ∧ W.cell? ⟨b, 1, none⟩ = some (.slice oa2 m.n oc2) ∧ W.cell? ⟨b, 2, none⟩ = some (.slice (some ⟨g, 0, none⟩) m.n m.n) ∧ W.cell? ⟨sb, so, none⟩ = some (.int .i64 x0) ∧ W.cell? ⟨sb, so + l1, none⟩ = some (.int .i64 xl) ∧ W.cell? ⟨g, x0, none⟩ = some (.int .i64 rx)) w8 := ⟨hb8.on hC7.1, hb8.on hC7.2.1, hb8.on hC7.2.2.1, hb8.on hC7.2.2.2.1, hb8.on hC7.2.2.2.2.1, hb8.on hC7.2.2.2.2.2.1, hb8.on hC7.2.2.2.2.2.2.1, hb8.on hC7.2.2.2.2.2.2.2.1, hb8.on hC7.2.2.2.2.2.2.2.2⟩
              refine hK _ _ hC8 ?_
              clear hb8
              simp only [Act.put, List.setIfInBounds_toArray, List.set_cons_succ, List.set_cons_zero]
              refine Lim.stepR 33 (fun _ => trivial) rfl (by kernel_rfl) (fun _ _ _ _ h => h) hC8 rfl ?_; apply Exists.intro; refine ⟨?_, ?_⟩
              · rintro w ⟨r1, r2, r3, r4, r5, r6, r7, r8, r9⟩; go_simp; try with_reducible rfl
              simp only [Act.put, List.setIfInBounds_toArray, List.set_cons_succ, List.set_cons_zero]
              refine Lim.stepR 34 (fun _ => trivial) rfl (by kernel_rfl) (fun _ _ _ _ h => h) hC8 rfl ?_; apply Exists.intro; refine ⟨?_, ?_⟩
              · rintro w ⟨r1, r2, r3, r4, r5, r6, r7, r8, r9⟩; go_simp; try with_reducible rfl
              simp only [Act.put, List.setIfInBounds_toArray, List.set_cons_succ, List.set_cons_zero]
              refine Lim.stepR 35 (fun _ => trivial) rfl (by kernel_rfl) (fun _ _ _ _ h => h) hC8 rfl ?_; apply Exists.intro; refine ⟨?_, ?_⟩
              · rintro w ⟨r1, r2, r3, r4, r5, r6, r7, r8, r9⟩; go_simp; try with_reducible rfl
              simp only [Act.put, List.setIfInBounds_toArray, List.set_cons_succ, List.set_cons_zero]
              refine Lim.stepD (by kernel_rfl) ?_
              clear hC hC5 hC7 hC8
              have HZF : Hid (z4 = true ↔ ∀ p ∈ L, r p ≠ j') := Lib.hid (by
                rw [HZ4.out, List.all_eq_true]
                constructor
                · intro h p hp
                  obtain ⟨k, hk, rfl⟩ := List.mem_iff_getElem.1 hp
                  have h1 := h k (List.mem_range.2 (by rw [List.length_map]; exact hk))
                  rw [List.getD_eq_getElem?_getD, List.getElem?_eq_getElem hk] at h1
                  exact of_decide_eq_true h1
                · intro h k hk
                  have hk : k < L.length := by simpa using hk
                  refine decide_eq_true (h _ ?_)
                  rw [List.getD_eq_getElem?_getD, List.getElem?_eq_getElem hk]
                  exact List.getElem_mem _)
              go_wp2_with fail
              go_ret2
              exact HFIN.out z4 _ HB8.out ⟨fun h => HLI.out.2 ⟨trivial, trivial, trivial, HZF.out.1 h⟩, fun h => HZF.out.2 (HLI.out.1 h).2.2.2⟩
          · have g2 : ((rx : Int) == i') = false := by simp; omega
            refine Lim.regC' (fun W => W.cell? ⟨q4, 0, none⟩ = some (.int .i64 m.wd) ∧ W.cell? ⟨q4, 1, none⟩ = some (.slice oa m.n oc) ∧ W.cell? ⟨qw, 0, none⟩ = some (.pointer (some ⟨b, 0, none⟩)) ∧ W.cell? ⟨b, 0, none⟩ = some (.int .i64 m.wd) ∧ W.cell? ⟨b, 1, none⟩ = some (.slice oa2 m.n oc2) ∧ W.cell? ⟨b, 2, none⟩ = some (.slice (some ⟨g, 0, none⟩) m.n m.n) ∧ W.cell? ⟨sb, so, none⟩ = some (.int .i64 x0) ∧ W.cell? ⟨sb, so + l1, none⟩ = some (.int .i64 xl) ∧ W.cell? ⟨g, x0, none⟩ = some (.int .i64 rx)) [] #[false, false, false, false, false, false, false, false, false, false, false, false, false, false, false, false, false, false, false, false, false, false, false, false, false, false, false, false, false, false, false, false, false, false, false, false] (by kernel_rfl) rfl ?_
            refine Lim.stepR 0 (fun _ => trivial) rfl (by kernel_rfl) (fun _ _ _ _ h => h) hC rfl ?_; apply Exists.intro; refine ⟨?_, ?_⟩
            · rintro w ⟨r1, r2, r3, r4, r5, r6, r7, r8, r9⟩; go_simp; try with_reducible rfl
            simp only [Act.put, List.setIfInBounds_toArray, List.set_cons_succ, List.set_cons_zero]
            refine Lim.stepR 1 (fun _ => trivial) rfl (by kernel_rfl) (fun _ _ _ _ h => h) hC rfl ?_; apply Exists.intro; refine ⟨?_, ?_⟩
            · rintro w ⟨r1, r2, r3, r4, r5, r6, r7, r8, r9⟩; go_simp; try with_reducible rfl
            simp only [Act.put, List.setIfInBounds_toArray, List.set_cons_succ, List.set_cons_zero]
            refine Lim.stepE 2 (fun _ => trivial) rfl (by kernel_rfl) rfl (fun K hK => ?_)   -- E call
            go_simp
            refine ⟨rfl, (callsIn_wide.2 HGO.out).mono ?_⟩
            rintro e w5 ⟨rfl, hb5⟩
            have HB5 := Lib.hid (HB3.out.trans (((Below.refl _ w3).drew.trans hb5).mono HB3.out.size))
            have hC5 : (fun W => W.cell? ⟨q4, 0, none⟩ = some (.int .i64 m.wd) ∧ W.cell? ⟨q4, 1, none⟩ = some (.slice oa m.n oc) ∧ W.cell? ⟨qw, 0, none⟩ = some (.pointer (some ⟨b, 0, none⟩)) ∧ W.cell? ⟨b, 0, none⟩ = some (.int .i64 m.wd) ∧ W.cell? ⟨b, 1, none⟩ = some (.slice oa2 m.n oc2) ∧ W.cell? ⟨b, 2, none⟩ = some (.slice (some ⟨g, 0, none⟩) m.n m.n) ∧ W.cell? ⟨sb, so, none⟩ = some (.int .i64 x0) ∧ W.cell? ⟨sb, so + l1, none⟩ = some (.int .i64 xl) ∧ W.cell? ⟨g, x0, none⟩ = some (.int .i64 rx)) w5 := ⟨hb5.on hC.1, hb5.on hC.2.1, hb5.on hC.2.2.1, hb5.on hC.2.2.2.1, hb5.on hC.2.2.2.2.1, hb5.on hC.2.2.2.2.2.1, hb5.on hC.2.2.2.2.2.2.1, hb5.on hC.2.2.2.2.2.2.2.1, hb5.on hC.2.2.2.2.2.2.2.2⟩
            refine hK _ _ hC5 ?_
            clear hb5
            simp only [Act.put, List.setIfInBounds_toArray, List.set_cons_succ, List.set_cons_zero]
            refine Lim.stepR 3 (fun _ => trivial) rfl (by kernel_rfl) (fun _ _ _ _ h => h) hC5 rfl ?_; apply Exists.intro; refine ⟨?_, ?_⟩
            · rintro w ⟨r1, r2, r3, r4, r5, r6, r7, r8, r9⟩; go_simp; try with_reducible rfl
            simp only [Act.put, List.setIfInBounds_toArray, List.set_cons_succ, List.set_cons_zero]
            refine Lim.stepR 4 (fun _ => trivial) rfl (by kernel_rfl) (fun _ _ _ _ h => h) hC5 rfl ?_; apply Exists.intro; refine ⟨?_, ?_⟩
            · rintro w ⟨r1, r2, r3, r4, r5, r6, r7, r8, r9⟩; go_simp; try with_reducible rfl
            simp only [Act.put, List.setIfInBounds_toArray, List.set_cons_succ, List.set_cons_zero]
            refine Lim.stepR 5 (fun _ => trivial) rfl (by kernel_rfl) (fun _ _ _ _ h => h) hC5 rfl ?_; apply Exists.intro; refine ⟨?_, ?_⟩
            · rintro w ⟨r1, r2, r3, r4, r5, r6, r7, r8, r9⟩; go_simp; try with_reducible rfl
            simp only [Act.put, List.setIfInBounds_toArray, List.set_cons_succ, List.set_cons_zero]
            refine Lim.stepR 6 (fun _ => trivial) rfl (by kernel_rfl) (fun _ _ _ _ h => h) hC5 rfl ?_; apply Exists.intro; refine ⟨?_, ?_⟩
            · rintro w ⟨r1, r2, r3, r4, r5, r6, r7, r8, r9⟩; go_simp; try with_reducible rfl
            simp only [Act.put, List.setIfInBounds_toArray, List.set_cons_succ, List.set_cons_zero]
            refine Lim.stepR 7 (fun _ => trivial) rfl (by kernel_rfl) (fun _ _ _ _ h => h) hC5 rfl ?_; apply Exists.intro; refine ⟨?_, ?_⟩
            · rintro w ⟨r1, r2, r3, r4, r5, r6, r7, r8, r9⟩; go_simp; try with_reducible rfl
            simp only [Act.put, List.setIfInBounds_toArray, List.set_cons_succ, List.set_cons_zero]
            refine Lim.stepR 8 (fun _ => trivial) rfl (by kernel_rfl) (fun _ _ _ _ h => h) hC5 rfl ?_; apply Exists.intro; refine ⟨?_, ?_⟩
            · rintro w ⟨r1, r2, r3, r4, r5, r6, r7, r8, r9⟩; go_simp; try with_reducible rfl
            simp only [Act.put, List.setIfInBounds_toArray, List.set_cons_succ, List.set_cons_zero]
            refine Lim.stepR 9 (fun _ => trivial) rfl (by kernel_rfl) (fun _ _ _ _ h => h) hC5 rfl ?_; apply Exists.intro; refine ⟨?_, ?_⟩
            · rintro w ⟨r1, r2, r3, r4, r5, r6, r7, r8, r9⟩; go_simp; try with_reducible rfl
            simp only [Act.put, List.setIfInBounds_toArray, List.set_cons_succ, List.set_cons_zero]
            refine Lim.stepR 10 (fun _ => trivial) rfl (by kernel_rfl) (fun _ _ _ _ h => h) hC5 rfl ?_; apply Exists.intro; refine ⟨?_, ?_⟩
            · rintro w ⟨r1, r2, r3, r4, r5, r6, r7, r8, r9⟩; go_simp; try with_reducible rfl
            simp only [Act.put, List.setIfInBounds_toArray, List.set_cons_succ, List.set_cons_zero]
            refine Lim.stepR 11 (fun _ => trivial) rfl (by kernel_rfl) (fun _ _ _ _ h => h) hC5 rfl ?_; apply Exists.intro; refine ⟨?_, ?_⟩
            · rintro w ⟨r1, r2, r3, r4, r5, r6, r7, r8, r9⟩; go_simp; try with_reducible rfl
            simp only [Act.put, List.setIfInBounds_toArray, List.set_cons_succ, List.set_cons_zero]
            refine Lim.stepR 12 (fun _ => trivial) rfl (by kernel_rfl) (fun _ _ _ _ h => h) hC5 rfl ?_; apply Exists.intro; refine ⟨?_, ?_⟩
            · rintro w ⟨r1, r2, r3, r4, r5, r6, r7, r8, r9⟩; go_simp; try with_reducible rfl
            simp only [Act.put, List.setIfInBounds_toArray, List.set_cons_succ, List.set_cons_zero]
            refine Lim.stepR 13 (fun _ => trivial) rfl (by kernel_rfl) (fun _ _ _ _ h => h) hC5 rfl ?_; apply Exists.intro; refine ⟨?_, ?_⟩
            · rintro w ⟨r1, r2, r3, r4, r5, r6, r7, r8, r9⟩; go_simp; try with_reducible rfl
            simp only [Act.put, List.setIfInBounds_toArray, List.set_cons_succ, List.set_cons_zero]
            refine Lim.stepR 14 (fun _ => trivial) rfl (by kernel_rfl) (fun _ _ _ _ h => h) hC5 rfl ?_; apply Exists.intro; refine ⟨?_, ?_⟩
            · rintro w ⟨r1, r2, r3, r4, r5, r6, r7, r8, r9⟩; go_simp; try with_reducible rfl
            simp only [Act.put, List.setIfInBounds_toArray, List.set_cons_succ, List.set_cons_zero]
            refine Lim.stepR 15 (fun _ => trivial) rfl (by kernel_rfl) (fun _ _ _ _ h => h) hC5 rfl ?_; apply Exists.intro; refine ⟨?_, ?_⟩
            · rintro w ⟨r1, r2, r3, r4, r5, r6, r7, r8, r9⟩; go_simp; try with_reducible rfl
            simp only [Act.put, List.setIfInBounds_toArray, List.set_cons_succ, List.set_cons_zero]
            refine Lim.stepR 16 (fun _ => trivial) rfl (by kernel_rfl) (fun _ _ _ _ h => h) hC5 rfl ?_; apply Exists.intro; refine ⟨?_, ?_⟩
            · rintro w ⟨r1, r2, r3, r4, r5, r6, r7, r8, r9⟩; go_simp; try with_reducible rfl
            simp only [Act.put, List.setIfInBounds_toArray, List.set_cons_succ, List.set_cons_zero]
            refine Lim.stepS 17 (fun _ => trivial) rfl (by kernel_rfl) (fun _ _ _ _ h => h) hC5 rfl ?_
            simp only [Act.put, List.setIfInBounds_toArray, List.set_cons_succ, List.set_cons_zero]
            refine Lim.stepS 18 (fun _ => trivial) rfl (by kernel_rfl) (fun _ _ _ _ h => h) hC5 rfl ?_
            simp only [Act.put, List.setIfInBounds_toArray, List.set_cons_succ, List.set_cons_zero]
            refine Lim.stepS 19 (fun _ => trivial) rfl (by kernel_rfl) (fun _ _ _ _ h => h) hC5 rfl ?_
            simp only [Act.put, List.setIfInBounds_toArray, List.set_cons_succ, List.set_cons_zero]
            refine Lim.stepS 20 (fun _ => trivial) rfl (by kernel_rfl) (fun _ _ _ _ h => h) hC5 rfl ?_
            simp only [Act.put, List.setIfInBounds_toArray, List.set_cons_succ, List.set_cons_zero]
            refine Lim.stepS 21 (fun _ => trivial) rfl (by kernel_rfl) (fun _ _ _ _ h => h) hC5 rfl ?_
            simp only [Act.put, List.setIfInBounds_toArray, List.set_cons_succ, List.set_cons_zero]
            refine Lim.stepS 22 (fun _ => trivial) rfl (by kernel_rfl) (fun _ _ _ _ h => h) hC5 rfl ?_
            simp only [Act.put, List.setIfInBounds_toArray, List.set_cons_succ, List.set_cons_zero]
            refine Lim.stepS 23 (fun _ => trivial) rfl (by kernel_rfl) (fun _ _ _ _ h => h) hC5 rfl ?_
            simp only [Act.put, List.setIfInBounds_toArray, List.set_cons_succ, List.set_cons_zero]
            refine Lim.stepS 24 (fun _ => trivial) rfl (by kernel_rfl) (fun _ _ _ _ h => h) hC5 rfl ?_
            simp only [Act.put, List.setIfInBounds_toArray, List.set_cons_succ, List.set_cons_zero]
            refine Lim.stepS 25 (fun _ => trivial) rfl (by kernel_rfl) (fun _ _ _ _ h => h) hC5 rfl ?_
            simp only [Act.put, List.setIfInBounds_toArray, List.set_cons_succ, List.set_cons_zero]
            refine Lim.stepS 26 (fun _ => trivial) rfl (by kernel_rfl) (fun _ _ _ _ h => h) hC5 rfl ?_
            simp only [Act.put, List.setIfInBounds_toArray, List.set_cons_succ, List.set_cons_zero]
            refine Lim.stepS 27 (fun _ => trivial) rfl (by kernel_rfl) (fun _ _ _ _ h => h) hC5 rfl ?_
            simp only [Act.put, List.setIfInBounds_toArray, List.set_cons_succ, List.set_cons_zero]
            refine Lim.stepR 28 (fun _ => trivial) rfl (by kernel_rfl) (fun _ _ _ _ h => h) hC5 rfl ?_; apply Exists.intro; refine ⟨?_, ?_⟩
            · rintro w ⟨r1, r2, r3, r4, r5, r6, r7, r8, r9⟩; go_simp; try with_reducible rfl
            simp only [Act.put, List.setIfInBounds_toArray, List.set_cons_succ, List.set_cons_zero]
            refine Lim.stepR 29 (fun _ => trivial) rfl (by kernel_rfl) (fun _ _ _ _ h => h) hC5 rfl ?_; apply Exists.intro; refine ⟨?_, ?_⟩
            · rintro w ⟨r1, r2, r3, r4, r5, r6, r7, r8, r9⟩; go_simp; try with_reducible rfl
            simp only [Act.put, List.setIfInBounds_toArray, List.set_cons_succ, List.set_cons_zero]
            refine Lim.stepS 30 (fun _ => trivial) rfl (by kernel_rfl) (fun _ _ _ _ h => h) hC5 rfl ?_
            simp only [Act.put, List.setIfInBounds_toArray, List.set_cons_succ, List.set_cons_zero]
            refine Lim.stepS 31 (fun _ => trivial) rfl (by kernel_rfl) (fun _ _ _ _ h => h) hC5 rfl ?_
            simp only [Act.put, List.setIfInBounds_toArray, List.set_cons_succ, List.set_cons_zero]
            refine Lim.stepS 32 (fun _ => trivial) rfl (by kernel_rfl) (fun _ _ _ _ h => h) hC5 rfl ?_
            simp only [Act.put, List.setIfInBounds_toArray, List.set_cons_succ, List.set_cons_zero]
            refine Lim.stepR 33 (fun _ => trivial) rfl (by kernel_rfl) (fun _ _ _ _ h => h) hC5 rfl ?_; apply Exists.intro; refine ⟨?_, ?_⟩
            · rintro w ⟨r1, r2, r3, r4, r5, r6, r7, r8, r9⟩; go_simp; try with_reducible rfl
            simp only [Act.put, List.setIfInBounds_toArray, List.set_cons_succ, List.set_cons_zero]
            refine Lim.stepR 34 (fun _ => trivial) rfl (by kernel_rfl) (fun _ _ _ _ h => h) hC5 rfl ?_; apply Exists.intro; refine ⟨?_, ?_⟩
            · rintro w ⟨r1, r2, r3, r4, r5, r6, r7, r8, r9⟩; go_simp; try with_reducible rfl
            simp only [Act.put, List.setIfInBounds_toArray, List.set_cons_succ, List.set_cons_zero]
            refine Lim.stepR 35 (fun _ => trivial) rfl (by kernel_rfl) (fun _ _ _ _ h => h) hC5 rfl ?_; apply Exists.intro; refine ⟨?_, ?_⟩
            · rintro w ⟨r1, r2, r3, r4, r5, r6, r7, r8, r9⟩; go_simp; try with_reducible rfl
            simp only [Act.put, List.setIfInBounds_toArray, List.set_cons_succ, List.set_cons_zero]
            refine Lim.stepD (by kernel_rfl) ?_
            clear hC hC5
            go_wp2_with fail
            go_ret2
            exact HFIN.out false _ HB5.out ⟨fun h => (by cases h), fun h => absurd (HLI.out.1 h).2.1 hri⟩
    · have g1 : (er != 0) = true := by simpa using h0
      have HER := Lib.hid (And.intro her h0)
      clear her h0
      go_wp2_with fail
      go_ret2
      exact ⟨HB2.out, .inr ⟨HE.out, r, k, HW.out.2.1, HW.out.2.2, .inl ⟨by rw [← HER.out.1]; exact HER.out.2, by rw [← HER.out.1]; rfl⟩⟩⟩
  · have g1 : (errE wd os != 0) = true := by simpa using he
    have HE := Lib.hid he
    obtain ⟨er, her⟩ : ∃ er, er = errE wd os := ⟨_, rfl⟩
    rw [← her] at g1 ⊢
    have HER := Lib.hid her
    clear he her
    go_wp2_with fail
    go_ret2
    exact ⟨HB1.out.1.trans (((Below.refl _ w1).alloc (Nat.le_refl _) _).mono HB1.out.1.size), .inl ⟨HE.out, by rw [← HER.out]; rfl⟩⟩
end Go.Proofs.Ytkjcnkkmhkcddaa
