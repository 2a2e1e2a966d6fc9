/-
  Parts of the proof, in the order in which they build: EzB, EzC.
-/
import Derived.Test.YtkjcnkkmhkcddaaA55
import Derived.Test.YtkjcnkkmhkcddaaA27
set_option linter.unusedVariables false
set_option linter.unusedSimpArgs false
/-
  What the outright laws on maps have in common.
-/
namespace Go.Proofs.Ytkjcnkkmhkcddaa
open Go.RowKit Go.Shelf
open Lim

theorem errE_made {wd hi : Nat} {os : List Int} (h1 : 1 ≤ wd) (h2 : 1 ≤ hi) (h3 : wd * hi ≤ 100) (hl : os.length = wd * hi) (ho : ∀ o ∈ os, 0 ≤ o ∧ o ≤ 9) : errE wd os = 0 := by
  have h4 : 0 < wd * hi := Nat.mul_pos h1 h2
  have hc : countB (wd : Int) os.length = true := by
    unfold countB
    rw [inB_true (by omega) (by omega)]
    simp only [Bool.true_and, Bool.and_eq_true, decide_eq_true_eq]
    refine ⟨by omega, ?_⟩
    rw [hl, Int.toNat_natCast, Nat.mul_mod_right]
  unfold errE
  rw [if_pos hc, if_pos]
  rw [List.all_eq_true]
  intro p hp
  have hp := List.mem_range.1 hp
  rw [List.getD_eq_getElem?_getD, List.getElem?_eq_getElem hp]
  have := ho _ (List.getElem_mem hp)
  exact inB_true this.1 this.2
/-- the next new number, ahead of plot p -/
def NxI (r : Nat → Nat) (p nx : Nat) : Prop := (∀ q, q < p → r q < nx) ∧ ∀ j, j < nx → ∃ q, q < p ∧ r q = j
theorem NxI.le {m : Mp} {r : Nat → Nat} {p nx : Nat} (h : NxI r p nx) (hr : IsReg m r) (hp : p < m.n) : r p ≤ nx := by
  by_cases e : r p ≤ nx
  · exact e
  · obtain ⟨q, h1, h2⟩ := hr.grow p hp nx (by omega)
    have := h.1 q h1
    omega
theorem NxI.new {r : Nat → Nat} {p nx : Nat} (h : NxI r p nx) (e : r p = nx) : NxI r (p + 1) (nx + 1) := by
  refine ⟨fun q hq => ?_, fun j hj => ?_⟩
  · by_cases e2 : q = p
    · subst e2; omega
    · have := h.1 q (by omega); omega
  · by_cases e2 : j = nx
    · exact ⟨p, by omega, by omega⟩
    · obtain ⟨q, h1, h2⟩ := h.2 j (by omega)
      exact ⟨q, by omega, h2⟩
theorem NxI.old {r : Nat → Nat} {p nx : Nat} (h : NxI r p nx) (hl : r p ≤ nx) (e : r p ≠ nx) : NxI r (p + 1) nx := by
  refine ⟨fun q hq => ?_, fun j hj => ?_⟩
  · by_cases e2 : q = p
    · subst e2; omega
    · exact h.1 q (by omega)
  · obtain ⟨q, h1, h2⟩ := h.2 j hj
    exact ⟨q, by omega, h2⟩
/-- neighbours are in one region just if they are of one state -/
theorem IsReg.beside {m : Mp} {r : Nat → Nat} (hr : IsReg m r) {p q : Nat} (hp : p < m.n) (hq : q < m.n) (h : nb m p q) : r p = r q ↔ m.own p = m.own q := by
  rw [hr.same p q hp hq]
  constructor
  · intro h; exact h.own.symm
  · intro e
    exact .step ⟨hp, rfl⟩ h (.refl ⟨hq, e.symm⟩)
theorem rs_cell {B : Nat} {W : World} {g c n p : Nat} {xs : List Int} (h : RS B W (.slice (some ⟨g, 0, none⟩) n c) n (ints xs)) (hp : p < xs.length) : W.cell? ⟨g, p, none⟩ = some (.int .i64 (xs.getD p 0)) := by
  obtain ⟨g', o, e, hc⟩ := cell_of_RS h hp
  simp only [Option.some.injEq, Addr.mk.injEq, and_true] at e
  obtain ⟨rfl, rfl⟩ := e
  rwa [Nat.zero_add] at hc
theorem getD_mapR {n p : Nat} (O : Nat → Int) (hp : p < n) : ((List.range n).map O).getD p 0 = O p := by
  rw [List.getD_eq_getElem?_getD, List.getElem?_map, List.getElem?_range hp]; rfl
theorem OuAns.told {m : Mp} {r : Nat → Nat} {k i j : Nat} {w w' : World} {e : Ending} (he : errE m.wd m.os = 0) (hr : IsReg m r) (hk : IsMany m r k) (hi : i < k) (hj : j < k) (hij : i ≠ j) (h : OuAns m.wd m.os i j w e w') :
    Below w.heap.size w w' ∧ ((In m r i j ∧ e = .returned (.tuple #[.slice none 0 0, .int .i64 7])) ∨ (¬ In m r i j ∧ ∃ (v : Value) (L : List Nat), L.length ≤ 300 ∧ e = .returned (.tuple #[v, .int .i64 0]) ∧ w'.ownsRow w.heap.size 3 1 v L.length (ints (L.map Int.ofNat)) ∧ ∀ w2 e2 w3, LeAns m.wd m.os i j (L.map Int.ofNat) w2 e2 w3 → e2 = .returned (.tuple #[.bool true, .int .i64 0]))) := by
  obtain ⟨hb, ⟨he', -⟩ | ⟨-, r', k', hr', hk', h⟩⟩ := h
  · exact absurd he he'
  have hr2 : IsReg m r' := by rw [Int.toNat_natCast] at hr'; exact hr'
  have hk2 : IsMany m r' k' := by rw [Int.toNat_natCast] at hk'; exact hk'
  obtain ⟨hrr, rfl⟩ := reg_same hr hr2 hk hk2
  have ha : askE i j k = 0 := by unfold askE; rw [if_pos ⟨by omega, by omega, by omega⟩]
  refine ⟨hb, ?_⟩
  rcases h with ⟨h, -⟩ | ⟨-, hn, rfl⟩ | ⟨-, v, L, hL, hl, rfl, ho⟩
  · exact absurd ha h
  · refine .inl ⟨⟨hij, fun h => hn ?_⟩, rfl⟩
    rw [Int.toNat_natCast]
    exact h.congr hrr
  · refine .inr ⟨fun h => h.2 ?_, v, L, hl, rfl, ho, fun w2 e2 w3 h2 => Leads.ans he hr' hk' ha hL h2⟩
    have h1 := hL.out
    rw [Int.toNat_natCast] at h1
    exact h1.congr (fun p hp => (hrr p hp).symm)
theorem nb_right {m : Mp} (hw : 0 < m.wd) {p : Nat} (h : 0 < (p + 1) % m.wd) : nb m p (p + 1) := by
  refine mem_nbr.2 (.inr (.inl ⟨?_, by omega⟩))
  apply Classical.byContradiction
  intro hn
  have h1 := Nat.mod_lt p hw
  have h2 := Nat.div_add_mod p m.wd
  have h3 : p + 1 = m.wd * (p / m.wd + 1) := by rw [Nat.mul_add, Nat.mul_one]; omega
  rw [h3, Nat.mul_mod_right] at h
  omega
theorem nb_down {m : Mp} {p : Nat} (h : p + m.wd < m.n) : nb m p (p + m.wd) := mem_nbr.2 (.inr (.inr (.inr ⟨h, by omega⟩)))
end Go.Proofs.Ytkjcnkkmhkcddaa
/-
  Enclaves are told to any depth: the contract of the law EnclaveTold.
-/
namespace Go.Proofs.Ytkjcnkkmhkcddaa
open Go.RowKit Go.Shelf
open Lim

attribute [local go_sem] Oper.semAt_some

set_option maxRecDepth 20000 in
set_option maxHeartbeats 8000000 in
theorem toldl_any {B : Nat} {cv : Value} {l : List Int} {w : World} (hB : B ≤ w.heap.size) (hv : RS B w cv l.length (u8s l)) (hu : ∀ x ∈ l, 0 ≤ x ∧ x ≤ 255) :
    Calls Try.prog 8 #[cv] w fun e w' => e = .returned (.bool true) ∧ Below w.heap.size w w' := by
  have CO := Lib.hid (of_any hB hv hu)
  have HBS := Lib.hid hB
  obtain ⟨xa, xc, rfl, -⟩ := hv
  clear hB hu
  go_enter Try.func8, Try.ntmps8
  go_wp2_with fail
  refine CO.out.mono ?_
  rintro e w1 ⟨rfl, hdk, hb, hz⟩
  have CM := Lib.hid (made_any (C := 8) (R := 8) (w := w1) (by omega) (by omega) hdk (by omega))
  have HB1 := Lib.hid hb
  clear hdk hb hz CO
  go_wp2_with fail
  refine CM.out.mono ?_
  rintro e w2 ⟨wd, hi, v, os, rfl, hwd1, hwdC, hhi1, hhiR, hos, ho3, hown, hs⟩
  obtain ⟨m, hm⟩ : ∃ m : Mp, m = ⟨wd, os⟩ := ⟨_, rfl⟩
  have hmn : wd * hi ≤ 8 * 8 := Nat.mul_le_mul hwdC hhiR
  have he : errE wd os = 0 := errE_made hwd1 hhi1 (by omega) hos (fun o h => by have := ho3 o h; omega)
  have hok : m.Ok := by have h := (errE_ok he).1; rw [Int.toNat_natCast] at h; rw [hm]; exact h
  have HM : Hid (m.Ok ∧ m.n = m.wd * hi ∧ m.n ≤ 8 * 8 ∧ (∀ o ∈ m.os, 0 ≤ o ∧ o ≤ 3) ∧ errE m.wd m.os = 0 ∧ 1 ≤ m.wd ∧ m.wd ≤ 8 ∧ 1 ≤ hi ∧ hi ≤ 8) := Lib.hid (by rw [hm]; exact ⟨by rw [← hm]; exact hok, hos, by show os.length ≤ _; omega, ho3, he, hwd1, hwdC, hhi1, hhiR⟩)
  obtain ⟨rfl, rfl⟩ : wd = m.wd ∧ os = m.os := by rw [hm]; exact ⟨rfl, rfl⟩
  have hnn : m.os.length = m.n := rfl
  simp only [hnn] at hown hos ⊢
  clear hnn
  obtain ⟨ga, gc, rfl, -, -⟩ := RowK.of_owns hown (show 0 < m.n from hok.n0)
  have HV := Lib.hid (RS.of_owns hown)
  have hb2 : Below w.heap.size w w2 := HB1.out.trans (hs.below HB1.out.size (fun k e => by omega))
  have HB2 := Lib.hid hb2
  clear hm hmn he hok hos ho3 hown hs hb2 hwd1 hwdC hhi1 hhiR CM HB1
  go_upto_region 2 with (fail)
  have hb : Below w2.heap.size w2 (w2.alloc (.cells #[.int .i64 m.wd, .slice (some ⟨ga, 0, none⟩) m.n gc] 24)) := (Below.refl _ _).alloc (Nat.le_refl _) _
  have k0 : (w2.alloc (.cells #[.int .i64 m.wd, .slice (some ⟨ga, 0, none⟩) m.n gc] 24)).cell? ⟨w2.heap.size, 0, none⟩ = some (.int .i64 m.wd) := by simp [go_sem]
  have k1 : (w2.alloc (.cells #[.int .i64 m.wd, .slice (some ⟨ga, 0, none⟩) m.n gc] 24)).cell? ⟨w2.heap.size, 1, none⟩ = some (.slice (some ⟨ga, 0, none⟩) m.n gc) := by simp [go_sem]
  generalize w2.alloc (.cells #[.int .i64 m.wd, .slice (some ⟨ga, 0, none⟩) m.n gc] 24) = w3 at hb k0 k1 ⊢
  obtain ⟨q3, hq⟩ : ∃ q, q = w2.heap.size := ⟨_, rfl⟩
  rw [← hq] at k0 k1 ⊢
  have HB := Lib.hid (HB2.out.trans (hb.mono HB2.out.size))
  replace HV := Lib.hid (RS.on HV.out hb)
  clear hb hq HB2 w2
  go_wp2_with fail
  refine (Regions_any (wd := m.wd) (B := w3.heap.size) (by have := HM.out.2.2.1; show m.n ≤ _; omega) (Nat.le_refl _) HV.out).mono ?_
  rintro e w4 ⟨hb, ⟨-, v, r, k, rfl, hr, hk, ho⟩ | ⟨he, -⟩⟩
  case inr => exact absurd HM.out.2.2.2.2.1 he
  rw [Int.toNat_natCast] at hr hk
  have HR : Hid (IsReg m r ∧ IsMany m r k) := Lib.hid ⟨hr, hk⟩
  replace ho : w4.ownsRow w3.heap.size 3 1 v m.n (ints (regL r m.n)) := ho
  obtain ⟨gl, cl, rfl, -, -⟩ := RowK.of_owns ho (show 0 < m.n from HM.out.1.n0)
  have HL := Lib.hid (RS.of_owns ho)
  replace HB := Lib.hid (HB.out.trans (hb.mono HB.out.size))
  replace HV := Lib.hid (RS.on HV.out hb)
  replace k0 := hb.on k0
  replace k1 := hb.on k1
  have hk1 : 1 ≤ k := hk.pos HM.out.1
  have hk100 : k ≤ 100 := Nat.le_trans hk.le HM.out.1.n1
  clear hb hr hk ho
  go_wp2_with fail
  refine (Depths_any (wd := m.wd) (B := w4.heap.size) (by have := HM.out.2.2.1; show m.n ≤ _; omega) (Nat.le_refl _) HV.out).mono ?_
  rintro e w5 ⟨hb, ⟨-, v, r', k', rfl, hr, hk, ho⟩ | ⟨he, -⟩⟩
  case inr => exact absurd HM.out.2.2.2.2.1 he
  rw [Int.toNat_natCast] at hr hk ho
  obtain ⟨hrr, rfl⟩ := reg_same HR.out.1 hr HR.out.2 hk
  have hdd : depL m r' k = depL m r k := List.map_congr_left (fun i _ => by rw [inCount_congr hrr])
  replace ho : w5.ownsRow w4.heap.size 3 1 v k (ints (depL m r k)) := by rw [← hdd]; exact ho
  obtain ⟨gd, cd, rfl, -, -⟩ := RowK.of_owns ho hk1
  have HD := Lib.hid (RS.of_owns ho)
  replace HB := Lib.hid (HB.out.trans (hb.mono HB.out.size))
  replace HV := Lib.hid (RS.on HV.out hb)
  replace HL := Lib.hid (RS.on HL.out hb)
  replace k0 := hb.on k0
  replace k1 := hb.on k1
  clear hb hr hk ho hrr hdd
  go_wp2_with fail
  refine (Around_any (wd := m.wd) (B := w5.heap.size) (by have := HM.out.2.2.1; show m.n ≤ _; omega) (Nat.le_refl _) HV.out).mono ?_
  rintro e w6 ⟨hb, ⟨-, v, r', k', rfl, hr, hk, A, hA, ho⟩ | ⟨he, -⟩⟩
  case inr => exact absurd HM.out.2.2.2.2.1 he
  rw [Int.toNat_natCast] at hr hk hA
  obtain ⟨hrr, rfl⟩ := reg_same HR.out.1 hr HR.out.2 hk
  have HA : Hid (∀ i, i < k → IsAr m r i k (A i)) := Lib.hid fun i hi => (hA i hi).congr (fun p hp => (hrr p hp).symm)
  obtain ⟨gr, cr, rfl, -, -⟩ := RowK.of_owns ho hk1
  have HO := Lib.hid (RS.of_owns ho)
  replace HB := Lib.hid (HB.out.trans (hb.mono HB.out.size))
  replace HV := Lib.hid (RS.on HV.out hb)
  replace HL := Lib.hid (RS.on HL.out hb)
  replace HD := Lib.hid (RS.on HD.out hb)
  replace k0 := hb.on k0
  replace k1 := hb.on k1
  clear hb hr hk ho hrr hA
  go_wp2_with fail
  refine (many_any (l := regL r m.n) (B := _) (by rw [regL_length]; have := HM.out.2.2.1; omega) (fun x hx => by
    obtain ⟨p, hp, rfl⟩ := List.mem_map.1 hx
    have h1 := HR.out.1.le p (List.mem_range.1 hp)
    have h2 := List.mem_range.1 hp
    have := HM.out.2.2.1
    omega) (by rw [regL_length]; exact HL.out)).mono ?_
  rw [many_reg HM.out.1 HR.out.2]
  rintro e w6 ⟨rfl, rfl⟩
  have HC : Hid (∀ W, Below w6.heap.size w6 W → (∀ p, p < m.n → W.cell? ⟨gl, p, none⟩ = some (.int .i64 (r p : Nat)) ∧ W.cell? ⟨ga, p, none⟩ = some (.int .i64 (m.own p))) ∧ ∀ i, i < k → W.cell? ⟨gd, i, none⟩ = some (.int .i64 (inCount m r i k : Nat)) ∧ W.cell? ⟨gr, i, none⟩ = some (.int .i64 (A i))) := Lib.hid fun W hW => by
    refine ⟨fun p hp => ⟨?_, ?_⟩, fun i hi => ⟨?_, ?_⟩⟩
    · have h := rs_cell (p := p) (HL.out.below hW) (by rw [regL_length]; exact hp)
      rw [h, show (regL r m.n).getD p 0 = r p from getD_mapR (fun p => (r p : Int)) hp]
    · exact rs_cell (p := p) (HV.out.below hW) hp
    · have h := rs_cell (p := i) (HD.out.below hW) (by simp [depL]; exact hi)
      rw [h, show (depL m r k).getD i 0 = inCount m r i k from getD_mapR (fun i => (inCount m r i k : Int)) hi]
    · have h := rs_cell (p := i) (HO.out.below hW) (by simp; exact hi)
      rw [h, getD_mapR A hi]
  have HK : Hid (∀ W, Below w6.heap.size w6 W → W.cell? ⟨q3, 0, none⟩ = some (.int .i64 m.wd) ∧ W.cell? ⟨q3, 1, none⟩ = some (.slice (some ⟨ga, 0, none⟩) m.n gc)) := Lib.hid fun W hW => ⟨hW.on k0, hW.on k1⟩
  have hn100 : m.n ≤ 64 := HM.out.2.2.1
  have hwd8 : m.wd ≤ 8 := HM.out.2.2.2.2.2.2.1
  have hwd1 : 1 ≤ m.wd := HM.out.2.2.2.2.2.1
  have hd64 : m.n ≤ 64 ∧ k ≤ 100 := ⟨hn100, hk100⟩
  go_wp2_with fail
  go_loopw [11, 76] (fun nv iv W => ∃ p nx : Nat, p ≤ m.n ∧ iv = .int .i64 p ∧ nv = .int .i64 nx ∧ Hid (Below w6.heap.size w6 W ∧ NxI r p nx ∧ nx ≤ p)) (fun _ iv _ => m.n - (intOf iv).toNat)
  case atStart => exact ⟨0, 0, Nat.zero_le _, rfl, rfl, Lib.hid ⟨Below.refl _ _, ⟨fun q hq => absurd hq (Nat.not_lt_zero _), fun j hj => absurd hj (Nat.not_lt_zero _)⟩, Nat.le_refl _⟩⟩
  case round =>
    obtain ⟨p, nx, hp, rfl, rfl, hI⟩ := hrel
    clear k0 k1
    by_cases hlt : p < m.n
    · have hp64 : (p : Int) < 64 := by omega
      obtain ⟨rp, hrp⟩ : ∃ rp, rp = r p := ⟨_, rfl⟩
      have d0 := ((HC.out _ hI.out.1).1 p hlt).1
      rw [← hrp] at d0
      have hle : rp ≤ nx := by rw [hrp]; exact hI.out.2.1.le HR.out.1 hlt
      have hnx : nx ≤ 64 := by have := hI.out.2.2; omega
      have g1 : decide ((rp : Int) < 0) = false := by simp
      have g2 : decide (nx < rp) = false := by simp; omega
      have HRP := Lib.hid hrp
      obtain ⟨k0, k1⟩ := HK.out _ hI.out.1
      have hbb : Below wr.heap.size wr (wr.alloc (.cells #[.int .i64 ((p : Int) + 1), .int .i64 ((p : Int) + m.wd)] 3)) := (Below.refl _ _).alloc (Nat.le_refl _) _
      have b0 : (wr.alloc (.cells #[.int .i64 ((p : Int) + 1), .int .i64 ((p : Int) + m.wd)] 3)).cell? ⟨wr.heap.size, 0, none⟩ = some (.int .i64 ((p : Int) + 1)) := by simp [go_sem]
      have b1 : (wr.alloc (.cells #[.int .i64 ((p : Int) + 1), .int .i64 ((p : Int) + m.wd)] 3)).cell? ⟨wr.heap.size, 1, none⟩ = some (.int .i64 ((p : Int) + m.wd)) := by simp [go_sem]
      have HNX : Hid (if rp = nx then NxI r (p + 1) (nx + 1) else NxI r (p + 1) nx) := Lib.hid (by
        split
        · rename_i e; exact hI.out.2.1.new (by rw [← hrp]; exact e)
        · rename_i e; exact hI.out.2.1.old (by rw [← hrp]; exact hle) (by rw [← hrp]; exact e))
      clear hrp
      by_cases hen : rp = nx
      · have g3 : ((rp : Int) == (nx : Int)) = true := by simp [hen]
        have HN2 : Hid (NxI r (p + 1) (nx + 1) ∧ nx + 1 ≤ p + 1) := Lib.hid ⟨by have h := HNX.out; rw [if_pos hen] at h; exact h, by have := hI.out.2.2; omega⟩
        clear hen HNX
        go_wp2_with fail
        generalize wr.alloc (.cells #[.int .i64 ((p : Int) + 1), .int .i64 ((p : Int) + m.wd)] 3) = wb at hbb b0 b1 ⊢
        obtain ⟨qb, hqb⟩ : ∃ q, q = wr.heap.size := ⟨_, rfl⟩
        rw [← hqb] at b0 b1 ⊢
        have HBB := Lib.hid (hI.out.1.trans (hbb.mono hI.out.1.size))
        clear hbb hqb d0 g1 g2 g3
        go_loopw [101] (fun iv W => ∃ j : Nat, j ≤ 2 ∧ iv = .int .i64 j ∧ Hid (Below wb.heap.size wb W)) (fun iv _ => 2 - (intOf iv).toNat)
        case atStart => exact ⟨0, by omega, rfl, Lib.hid (Below.refl _ _)⟩
        case round =>
          obtain ⟨j, hj, rfl, hJ⟩ := hrel
          by_cases hj2 : j < 2
          · have hj64 : (j : Int) < 2 := by omega
            obtain ⟨qv, hqv, cq⟩ : ∃ qv : Nat, (qv = p + 1 ∨ qv = p + m.wd) ∧ wr.cell? ⟨qb, j, none⟩ = some (.int .i64 qv) := by
              by_cases e : j = 0
              · subst e; exact ⟨p + 1, .inl rfl, by have h := hJ.out.on b0; rw [h]; rfl⟩
              · obtain rfl : j = 1 := by omega
                exact ⟨p + m.wd, .inr rfl, by have h := hJ.out.on b1; rw [h]; rfl⟩
            have HQV := Lib.hid hqv
            have hq72 : qv ≤ 72 := by omega
            have HBJ := Lib.hid (HBB.out.trans (hJ.out.mono HBB.out.size))
            obtain ⟨k0, k1⟩ := HK.out _ HBJ.out
            have hwn : ¬ m.wd = 0 := by omega
            have hwp : IntKind.i64.wrap ((p : Int) + (m.wd : Int)) = (p : Int) + (m.wd : Int) := IntWalk.i64_in _ (by omega)
            have hwq : IntKind.i64.wrap (qv : Int) = (qv : Int) := IntWalk.i64_in _ (by omega)
            clear b0 b1 hqv
            by_cases hq : qv < m.n
            · have g4 : decide (qv < m.n) = true := by simpa using hq
              obtain ⟨rq, hrq⟩ : ∃ rq, rq = r qv := ⟨_, rfl⟩
              obtain ⟨o, ho⟩ : ∃ o, o = m.own p := ⟨_, rfl⟩
              obtain ⟨o', ho'⟩ : ∃ o', o' = m.own qv := ⟨_, rfl⟩
              have c1 := ((HC.out _ HBJ.out).1 p hlt).1
              have c2 := ((HC.out _ HBJ.out).1 p hlt).2
              have c3 := ((HC.out _ HBJ.out).1 qv hq).1
              have c4 := ((HC.out _ HBJ.out).1 qv hq).2
              rw [← HRP.out] at c1
              rw [← ho] at c2
              rw [← hrq] at c3
              rw [← ho'] at c4
              have hC : (fun W => W.cell? ⟨q3, 0, none⟩ = some (.int .i64 m.wd) ∧ W.cell? ⟨q3, 1, none⟩ = some (.slice (some ⟨ga, 0, none⟩) m.n gc) ∧ W.cell? ⟨gl, p, none⟩ = some (.int .i64 rp) ∧ W.cell? ⟨ga, p, none⟩ = some (.int .i64 o) ∧ W.cell? ⟨gl, qv, none⟩ = some (.int .i64 rq) ∧ W.cell? ⟨ga, qv, none⟩ = some (.int .i64 o')) wr.drew := ⟨k0, k1, c1, c2, c3, c4⟩
              have HCMP : Hid (nb m p qv → ((rp : Int) == (rq : Int)) = (o == o')) := Lib.hid fun hnb => by
                have h := HR.out.1.beside hlt hq hnb
                rw [← HRP.out, ← hrq, ← ho, ← ho'] at h
                by_cases e : rp = rq
                · have e2 := h.1 e; simp [e, e2]
                · have e2 : ¬ o = o' := fun e2 => e (h.2 e2)
                  have e3 : ¬ (rp : Int) = (rq : Int) := by omega
                  have q1 : ((rp : Int) == (rq : Int)) = false := beq_eq_false_iff_ne.2 e3
                  have q2 : (o == o') = false := beq_eq_false_iff_ne.2 e2
                  rw [q1, q2]
              clear hrq ho ho' c1 c2 c3 c4
              by_cases hd : qv = p + m.wd
              · have g11 : (p : Int) + (m.wd : Int) = (qv : Int) := by omega
                have gc0 := HCMP.out (by rw [hd]; exact nb_down (by omega))
                clear hd
                go_upto_region 19 with (fail)
                refine Lim.regC' (fun W => W.cell? ⟨q3, 0, none⟩ = some (.int .i64 m.wd) ∧ W.cell? ⟨q3, 1, none⟩ = some (.slice (some ⟨ga, 0, none⟩) m.n gc) ∧ W.cell? ⟨gl, p, none⟩ = some (.int .i64 rp) ∧ W.cell? ⟨ga, p, none⟩ = some (.int .i64 o) ∧ W.cell? ⟨gl, qv, none⟩ = some (.int .i64 rq) ∧ W.cell? ⟨ga, qv, none⟩ = some (.int .i64 o')) [] #[false, false, false, false, false, false, false, false, false, false, false, false, false, false, false, false, false, false, false, false, false, false, false, false, false, false, false, false, false, false, false, false, false, false, false, false, false, false, false, false, false, false] (by kernel_rfl) rfl ?_
                refine Lim.stepR 0 (fun _ => trivial) rfl (by kernel_rfl) (fun _ _ _ _ h => h) hC rfl ?_; apply Exists.intro; refine ⟨?_, ?_⟩
                · rintro w ⟨r1, r2, r3, r4, r5, r6⟩; go_simp; try with_reducible rfl
                simp only [Act.put, List.setIfInBounds_toArray, List.set_cons_succ, List.set_cons_zero]
                refine Lim.stepR 1 (fun _ => trivial) rfl (by kernel_rfl) (fun _ _ _ _ h => h) hC rfl ?_; apply Exists.intro; refine ⟨?_, ?_⟩
                · rintro w ⟨r1, r2, r3, r4, r5, r6⟩; go_simp; try with_reducible rfl
                simp only [Act.put, List.setIfInBounds_toArray, List.set_cons_succ, List.set_cons_zero]
                refine Lim.stepR 2 (fun _ => trivial) rfl (by kernel_rfl) (fun _ _ _ _ h => h) hC rfl ?_; apply Exists.intro; refine ⟨?_, ?_⟩
                · rintro w ⟨r1, r2, r3, r4, r5, r6⟩; go_simp; try with_reducible rfl
                simp only [Act.put, List.setIfInBounds_toArray, List.set_cons_succ, List.set_cons_zero]
                refine Lim.stepR 3 (fun _ => trivial) rfl (by kernel_rfl) (fun _ _ _ _ h => h) hC rfl ?_; apply Exists.intro; refine ⟨?_, ?_⟩
                · rintro w ⟨r1, r2, r3, r4, r5, r6⟩; go_simp; try with_reducible rfl
                simp only [Act.put, List.setIfInBounds_toArray, List.set_cons_succ, List.set_cons_zero]
                refine Lim.stepR 4 (fun _ => trivial) rfl (by kernel_rfl) (fun _ _ _ _ h => h) hC rfl ?_; apply Exists.intro; refine ⟨?_, ?_⟩
                · rintro w ⟨r1, r2, r3, r4, r5, r6⟩; go_simp; try with_reducible rfl
                simp only [Act.put, List.setIfInBounds_toArray, List.set_cons_succ, List.set_cons_zero]
                refine Lim.stepR 5 (fun _ => trivial) rfl (by kernel_rfl) (fun _ _ _ _ h => h) hC rfl ?_; apply Exists.intro; refine ⟨?_, ?_⟩
                · rintro w ⟨r1, r2, r3, r4, r5, r6⟩; go_simp; try with_reducible rfl
                simp only [Act.put, List.setIfInBounds_toArray, List.set_cons_succ, List.set_cons_zero]
                refine Lim.stepR 6 (fun _ => trivial) rfl (by kernel_rfl) (fun _ _ _ _ h => h) hC rfl ?_; apply Exists.intro; refine ⟨?_, ?_⟩
                · rintro w ⟨r1, r2, r3, r4, r5, r6⟩; go_simp; try with_reducible rfl
                simp only [Act.put, List.setIfInBounds_toArray, List.set_cons_succ, List.set_cons_zero]
                refine Lim.stepR 7 (fun _ => trivial) rfl (by kernel_rfl) (fun _ _ _ _ h => h) hC rfl ?_; apply Exists.intro; refine ⟨?_, ?_⟩
                · rintro w ⟨r1, r2, r3, r4, r5, r6⟩; go_simp; try with_reducible rfl
                simp only [Act.put, List.setIfInBounds_toArray, List.set_cons_succ, List.set_cons_zero]
                refine Lim.stepR 8 (fun _ => trivial) rfl (by kernel_rfl) (fun _ _ _ _ h => h) hC rfl ?_; apply Exists.intro; refine ⟨?_, ?_⟩
                · rintro w ⟨r1, r2, r3, r4, r5, r6⟩; go_simp; try with_reducible rfl
                simp only [Act.put, List.setIfInBounds_toArray, List.set_cons_succ, List.set_cons_zero]
                refine Lim.stepR 9 (fun _ => trivial) rfl (by kernel_rfl) (fun _ _ _ _ h => h) hC rfl ?_; apply Exists.intro; refine ⟨?_, ?_⟩
                · rintro w ⟨r1, r2, r3, r4, r5, r6⟩; go_simp; try with_reducible rfl
                simp only [Act.put, List.setIfInBounds_toArray, List.set_cons_succ, List.set_cons_zero]
                refine Lim.stepR 10 (fun _ => trivial) rfl (by kernel_rfl) (fun _ _ _ _ h => h) hC rfl ?_; apply Exists.intro; refine ⟨?_, ?_⟩
                · rintro w ⟨r1, r2, r3, r4, r5, r6⟩; go_simp; try with_reducible rfl
                simp only [Act.put, List.setIfInBounds_toArray, List.set_cons_succ, List.set_cons_zero]
                refine Lim.stepR 11 (fun _ => trivial) rfl (by kernel_rfl) (fun _ _ _ _ h => h) hC rfl ?_; apply Exists.intro; refine ⟨?_, ?_⟩
                · rintro w ⟨r1, r2, r3, r4, r5, r6⟩; go_simp; try with_reducible rfl
                simp only [Act.put, List.setIfInBounds_toArray, List.set_cons_succ, List.set_cons_zero]
                refine Lim.stepS 12 (fun _ => trivial) rfl (by kernel_rfl) (fun _ _ _ _ h => h) hC rfl ?_
                simp only [Act.put, List.setIfInBounds_toArray, List.set_cons_succ, List.set_cons_zero]
                refine Lim.stepS 13 (fun _ => trivial) rfl (by kernel_rfl) (fun _ _ _ _ h => h) hC rfl ?_
                simp only [Act.put, List.setIfInBounds_toArray, List.set_cons_succ, List.set_cons_zero]
                refine Lim.stepS 14 (fun _ => trivial) rfl (by kernel_rfl) (fun _ _ _ _ h => h) hC rfl ?_
                simp only [Act.put, List.setIfInBounds_toArray, List.set_cons_succ, List.set_cons_zero]
                refine Lim.stepS 15 (fun _ => trivial) rfl (by kernel_rfl) (fun _ _ _ _ h => h) hC rfl ?_
                simp only [Act.put, List.setIfInBounds_toArray, List.set_cons_succ, List.set_cons_zero]
                refine Lim.stepS 16 (fun _ => trivial) rfl (by kernel_rfl) (fun _ _ _ _ h => h) hC rfl ?_
                simp only [Act.put, List.setIfInBounds_toArray, List.set_cons_succ, List.set_cons_zero]
                refine Lim.stepR 17 (fun _ => trivial) rfl (by kernel_rfl) (fun _ _ _ _ h => h) hC rfl ?_; apply Exists.intro; refine ⟨?_, ?_⟩
                · rintro w ⟨r1, r2, r3, r4, r5, r6⟩; go_simp; try with_reducible rfl
                simp only [Act.put, List.setIfInBounds_toArray, List.set_cons_succ, List.set_cons_zero]
                refine Lim.stepR 18 (fun _ => trivial) rfl (by kernel_rfl) (fun _ _ _ _ h => h) hC rfl ?_; apply Exists.intro; refine ⟨?_, ?_⟩
                · rintro w ⟨r1, r2, r3, r4, r5, r6⟩; go_simp; try with_reducible rfl
                simp only [Act.put, List.setIfInBounds_toArray, List.set_cons_succ, List.set_cons_zero]
                refine Lim.stepR 19 (fun _ => trivial) rfl (by kernel_rfl) (fun _ _ _ _ h => h) hC rfl ?_; apply Exists.intro; refine ⟨?_, ?_⟩
                · rintro w ⟨r1, r2, r3, r4, r5, r6⟩; go_simp; try with_reducible rfl
                simp only [Act.put, List.setIfInBounds_toArray, List.set_cons_succ, List.set_cons_zero]
                refine Lim.stepR 20 (fun _ => trivial) rfl (by kernel_rfl) (fun _ _ _ _ h => h) hC rfl ?_; apply Exists.intro; refine ⟨?_, ?_⟩
                · rintro w ⟨r1, r2, r3, r4, r5, r6⟩; go_simp; try with_reducible rfl
                simp only [Act.put, List.setIfInBounds_toArray, List.set_cons_succ, List.set_cons_zero]
                refine Lim.stepR 21 (fun _ => trivial) rfl (by kernel_rfl) (fun _ _ _ _ h => h) hC rfl ?_; apply Exists.intro; refine ⟨?_, ?_⟩
                · rintro w ⟨r1, r2, r3, r4, r5, r6⟩; go_simp; try with_reducible rfl
                simp only [Act.put, List.setIfInBounds_toArray, List.set_cons_succ, List.set_cons_zero]
                refine Lim.stepR 22 (fun _ => trivial) rfl (by kernel_rfl) (fun _ _ _ _ h => h) hC rfl ?_; apply Exists.intro; refine ⟨?_, ?_⟩
                · rintro w ⟨r1, r2, r3, r4, r5, r6⟩; go_simp; try with_reducible rfl
                simp only [Act.put, List.setIfInBounds_toArray, List.set_cons_succ, List.set_cons_zero]
                refine Lim.stepR 23 (fun _ => trivial) rfl (by kernel_rfl) (fun _ _ _ _ h => h) hC rfl ?_; apply Exists.intro; refine ⟨?_, ?_⟩
                · rintro w ⟨r1, r2, r3, r4, r5, r6⟩; go_simp; try with_reducible rfl
                simp only [Act.put, List.setIfInBounds_toArray, List.set_cons_succ, List.set_cons_zero]
                refine Lim.stepR 24 (fun _ => trivial) rfl (by kernel_rfl) (fun _ _ _ _ h => h) hC rfl ?_; apply Exists.intro; refine ⟨?_, ?_⟩
                · rintro w ⟨r1, r2, r3, r4, r5, r6⟩; go_simp; try with_reducible rfl
                simp only [Act.put, List.setIfInBounds_toArray, List.set_cons_succ, List.set_cons_zero]
                refine Lim.stepR 25 (fun _ => trivial) rfl (by kernel_rfl) (fun _ _ _ _ h => h) hC rfl ?_; apply Exists.intro; refine ⟨?_, ?_⟩
                · rintro w ⟨r1, r2, r3, r4, r5, r6⟩; go_simp; try with_reducible rfl
                simp only [Act.put, List.setIfInBounds_toArray, List.set_cons_succ, List.set_cons_zero]
                refine Lim.stepR 26 (fun _ => trivial) rfl (by kernel_rfl) (fun _ _ _ _ h => h) hC rfl ?_; apply Exists.intro; refine ⟨?_, ?_⟩
                · rintro w ⟨r1, r2, r3, r4, r5, r6⟩; go_simp; try with_reducible rfl
                simp only [Act.put, List.setIfInBounds_toArray, List.set_cons_succ, List.set_cons_zero]
                refine Lim.stepR 27 (fun _ => trivial) rfl (by kernel_rfl) (fun _ _ _ _ h => h) hC rfl ?_; apply Exists.intro; refine ⟨?_, ?_⟩
                · rintro w ⟨r1, r2, r3, r4, r5, r6⟩; go_simp; try with_reducible rfl
                simp only [Act.put, List.setIfInBounds_toArray, List.set_cons_succ, List.set_cons_zero]
                refine Lim.stepR 28 (fun _ => trivial) rfl (by kernel_rfl) (fun _ _ _ _ h => h) hC rfl ?_; apply Exists.intro; refine ⟨?_, ?_⟩
                · rintro w ⟨r1, r2, r3, r4, r5, r6⟩; go_simp; try with_reducible rfl
                simp only [Act.put, List.setIfInBounds_toArray, List.set_cons_succ, List.set_cons_zero]
                refine Lim.stepR 29 (fun _ => trivial) rfl (by kernel_rfl) (fun _ _ _ _ h => h) hC rfl ?_; apply Exists.intro; refine ⟨?_, ?_⟩
                · rintro w ⟨r1, r2, r3, r4, r5, r6⟩; go_simp; try with_reducible rfl
                simp only [Act.put, List.setIfInBounds_toArray, List.set_cons_succ, List.set_cons_zero]
                refine Lim.stepR 30 (fun _ => trivial) rfl (by kernel_rfl) (fun _ _ _ _ h => h) hC rfl ?_; apply Exists.intro; refine ⟨?_, ?_⟩
                · rintro w ⟨r1, r2, r3, r4, r5, r6⟩; go_simp; try with_reducible rfl
                simp only [Act.put, List.setIfInBounds_toArray, List.set_cons_succ, List.set_cons_zero]
                refine Lim.stepR 31 (fun _ => trivial) rfl (by kernel_rfl) (fun _ _ _ _ h => h) hC rfl ?_; apply Exists.intro; refine ⟨?_, ?_⟩
                · rintro w ⟨r1, r2, r3, r4, r5, r6⟩; go_simp; try with_reducible rfl
                simp only [Act.put, List.setIfInBounds_toArray, List.set_cons_succ, List.set_cons_zero]
                refine Lim.stepR 32 (fun _ => trivial) rfl (by kernel_rfl) (fun _ _ _ _ h => h) hC rfl ?_; apply Exists.intro; refine ⟨?_, ?_⟩
                · rintro w ⟨r1, r2, r3, r4, r5, r6⟩; go_simp; try with_reducible rfl
                simp only [Act.put, List.setIfInBounds_toArray, List.set_cons_succ, List.set_cons_zero]
                refine Lim.stepR 33 (fun _ => trivial) rfl (by kernel_rfl) (fun _ _ _ _ h => h) hC rfl ?_; apply Exists.intro; refine ⟨?_, ?_⟩
                · rintro w ⟨r1, r2, r3, r4, r5, r6⟩; go_simp; try with_reducible rfl
                simp only [Act.put, List.setIfInBounds_toArray, List.set_cons_succ, List.set_cons_zero]
                refine Lim.stepR 34 (fun _ => trivial) rfl (by kernel_rfl) (fun _ _ _ _ h => h) hC rfl ?_; apply Exists.intro; refine ⟨?_, ?_⟩
                · rintro w ⟨r1, r2, r3, r4, r5, r6⟩; go_simp; try with_reducible rfl
                simp only [Act.put, List.setIfInBounds_toArray, List.set_cons_succ, List.set_cons_zero]
                refine Lim.stepR 35 (fun _ => trivial) rfl (by kernel_rfl) (fun _ _ _ _ h => h) hC rfl ?_; apply Exists.intro; refine ⟨?_, ?_⟩
                · rintro w ⟨r1, r2, r3, r4, r5, r6⟩; go_simp; try with_reducible rfl
                simp only [Act.put, List.setIfInBounds_toArray, List.set_cons_succ, List.set_cons_zero]
                refine Lim.stepR 36 (fun _ => trivial) rfl (by kernel_rfl) (fun _ _ _ _ h => h) hC rfl ?_; apply Exists.intro; refine ⟨?_, ?_⟩
                · rintro w ⟨r1, r2, r3, r4, r5, r6⟩; go_simp; try with_reducible rfl
                simp only [Act.put, List.setIfInBounds_toArray, List.set_cons_succ, List.set_cons_zero]
                refine Lim.stepR 37 (fun _ => trivial) rfl (by kernel_rfl) (fun _ _ _ _ h => h) hC rfl ?_; apply Exists.intro; refine ⟨?_, ?_⟩
                · rintro w ⟨r1, r2, r3, r4, r5, r6⟩; go_simp; try with_reducible rfl
                simp only [Act.put, List.setIfInBounds_toArray, List.set_cons_succ, List.set_cons_zero]
                refine Lim.stepR 38 (fun _ => trivial) rfl (by kernel_rfl) (fun _ _ _ _ h => h) hC rfl ?_; apply Exists.intro; refine ⟨?_, ?_⟩
                · rintro w ⟨r1, r2, r3, r4, r5, r6⟩; go_simp; try with_reducible rfl
                simp only [Act.put, List.setIfInBounds_toArray, List.set_cons_succ, List.set_cons_zero]
                refine Lim.stepR 39 (fun _ => trivial) rfl (by kernel_rfl) (fun _ _ _ _ h => h) hC rfl ?_; apply Exists.intro; refine ⟨?_, ?_⟩
                · rintro w ⟨r1, r2, r3, r4, r5, r6⟩; go_simp; try with_reducible rfl
                simp only [Act.put, List.setIfInBounds_toArray, List.set_cons_succ, List.set_cons_zero]
                refine Lim.stepR 40 (fun _ => trivial) rfl (by kernel_rfl) (fun _ _ _ _ h => h) hC rfl ?_; apply Exists.intro; refine ⟨?_, ?_⟩
                · rintro w ⟨r1, r2, r3, r4, r5, r6⟩; go_simp; try with_reducible rfl
                simp only [Act.put, List.setIfInBounds_toArray, List.set_cons_succ, List.set_cons_zero]
                refine Lim.stepR 41 (fun _ => trivial) rfl (by kernel_rfl) (fun _ _ _ _ h => h) hC rfl ?_; apply Exists.intro; refine ⟨?_, ?_⟩
                · rintro w ⟨r1, r2, r3, r4, r5, r6⟩; go_simp; try with_reducible rfl
                simp only [Act.put, List.setIfInBounds_toArray, List.set_cons_succ, List.set_cons_zero]
                refine Lim.stepD (by kernel_rfl) ?_
                clear hC
                go_wp2_with fail
                go_roundw
                case rel => exact ⟨j + 1, by omega, by go_num, Lib.hid hJ.out.drew⟩
                case measure => simp [intOf]; omega
              · have g11 : ((qv : Int) == (p : Int) + (m.wd : Int)) = false := by rw [beq_eq_false_iff_ne]; omega
                obtain ⟨rm, hrm⟩ : ∃ rm, rm = qv % m.wd := ⟨_, rfl⟩
                have e5 : (qv : Int).tmod (m.wd : Int) = (rm : Int) := by rw [hrm]; exact (Int.ofNat_tmod qv m.wd).symm
                by_cases hz : 0 < rm
                · have g16 : decide ((0 : Int) < (rm : Int)) = true := by simp; omega
                  have g17 : decide (0 < rm) = true := by simpa using hz
                  have gc0 := HCMP.out (by
                    rcases HQV.out with e | e
                    · rw [e]; exact nb_right (by omega) (by rw [← e, ← hrm]; exact hz)
                    · exact absurd e hd)
                  clear hz hrm
                  have hdn : ¬ ((qv : Int) = (p : Int) + (m.wd : Int)) := by omega
                  go_upto_region 19 with (fail)
                  refine Lim.regC' (fun W => W.cell? ⟨q3, 0, none⟩ = some (.int .i64 m.wd) ∧ W.cell? ⟨q3, 1, none⟩ = some (.slice (some ⟨ga, 0, none⟩) m.n gc) ∧ W.cell? ⟨gl, p, none⟩ = some (.int .i64 rp) ∧ W.cell? ⟨ga, p, none⟩ = some (.int .i64 o) ∧ W.cell? ⟨gl, qv, none⟩ = some (.int .i64 rq) ∧ W.cell? ⟨ga, qv, none⟩ = some (.int .i64 o')) [] #[false, false, false, false, false, false, false, false, false, false, false, false, false, false, false, false, false, false, false, false, false, false, false, false, false, false, false, false, false, false, false, false, false, false, false, false, false, false, false, false, false, false] (by kernel_rfl) rfl ?_
                  refine Lim.stepR 0 (fun _ => trivial) rfl (by kernel_rfl) (fun _ _ _ _ h => h) hC rfl ?_; apply Exists.intro; refine ⟨?_, ?_⟩
                  · rintro w ⟨r1, r2, r3, r4, r5, r6⟩; go_simp; try with_reducible rfl
                  simp only [Act.put, List.setIfInBounds_toArray, List.set_cons_succ, List.set_cons_zero]
                  refine Lim.stepR 1 (fun _ => trivial) rfl (by kernel_rfl) (fun _ _ _ _ h => h) hC rfl ?_; apply Exists.intro; refine ⟨?_, ?_⟩
                  · rintro w ⟨r1, r2, r3, r4, r5, r6⟩; go_simp; try with_reducible rfl
                  simp only [Act.put, List.setIfInBounds_toArray, List.set_cons_succ, List.set_cons_zero]
                  refine Lim.stepR 2 (fun _ => trivial) rfl (by kernel_rfl) (fun _ _ _ _ h => h) hC rfl ?_; apply Exists.intro; refine ⟨?_, ?_⟩
                  · rintro w ⟨r1, r2, r3, r4, r5, r6⟩; go_simp; try with_reducible rfl
                  simp only [Act.put, List.setIfInBounds_toArray, List.set_cons_succ, List.set_cons_zero]
                  refine Lim.stepR 3 (fun _ => trivial) rfl (by kernel_rfl) (fun _ _ _ _ h => h) hC rfl ?_; apply Exists.intro; refine ⟨?_, ?_⟩
                  · rintro w ⟨r1, r2, r3, r4, r5, r6⟩; go_simp; try with_reducible rfl
                  simp only [Act.put, List.setIfInBounds_toArray, List.set_cons_succ, List.set_cons_zero]
                  refine Lim.stepR 4 (fun _ => trivial) rfl (by kernel_rfl) (fun _ _ _ _ h => h) hC rfl ?_; apply Exists.intro; refine ⟨?_, ?_⟩
                  · rintro w ⟨r1, r2, r3, r4, r5, r6⟩; go_simp; try with_reducible rfl
                  simp only [Act.put, List.setIfInBounds_toArray, List.set_cons_succ, List.set_cons_zero]
                  refine Lim.stepR 5 (fun _ => trivial) rfl (by kernel_rfl) (fun _ _ _ _ h => h) hC rfl ?_; apply Exists.intro; refine ⟨?_, ?_⟩
                  · rintro w ⟨r1, r2, r3, r4, r5, r6⟩; go_simp; try with_reducible rfl
                  simp only [Act.put, List.setIfInBounds_toArray, List.set_cons_succ, List.set_cons_zero]
                  refine Lim.stepR 6 (fun _ => trivial) rfl (by kernel_rfl) (fun _ _ _ _ h => h) hC rfl ?_; apply Exists.intro; refine ⟨?_, ?_⟩
                  · rintro w ⟨r1, r2, r3, r4, r5, r6⟩; go_simp; try with_reducible rfl
                  simp only [Act.put, List.setIfInBounds_toArray, List.set_cons_succ, List.set_cons_zero]
                  refine Lim.stepR 7 (fun _ => trivial) rfl (by kernel_rfl) (fun _ _ _ _ h => h) hC rfl ?_; apply Exists.intro; refine ⟨?_, ?_⟩
                  · rintro w ⟨r1, r2, r3, r4, r5, r6⟩; go_simp; try with_reducible rfl
                  simp only [Act.put, List.setIfInBounds_toArray, List.set_cons_succ, List.set_cons_zero]
                  refine Lim.stepR 8 (fun _ => trivial) rfl (by kernel_rfl) (fun _ _ _ _ h => h) hC rfl ?_; apply Exists.intro; refine ⟨?_, ?_⟩
                  · rintro w ⟨r1, r2, r3, r4, r5, r6⟩; go_simp; try with_reducible rfl
                  simp only [Act.put, List.setIfInBounds_toArray, List.set_cons_succ, List.set_cons_zero]
                  refine Lim.stepR 9 (fun _ => trivial) rfl (by kernel_rfl) (fun _ _ _ _ h => h) hC rfl ?_; apply Exists.intro; refine ⟨?_, ?_⟩
                  · rintro w ⟨r1, r2, r3, r4, r5, r6⟩; go_simp; try with_reducible rfl
                  simp only [Act.put, List.setIfInBounds_toArray, List.set_cons_succ, List.set_cons_zero]
                  refine Lim.stepR 10 (fun _ => trivial) rfl (by kernel_rfl) (fun _ _ _ _ h => h) hC rfl ?_; apply Exists.intro; refine ⟨?_, ?_⟩
                  · rintro w ⟨r1, r2, r3, r4, r5, r6⟩; go_simp; try with_reducible rfl
                  simp only [Act.put, List.setIfInBounds_toArray, List.set_cons_succ, List.set_cons_zero]
                  refine Lim.stepR 11 (fun _ => trivial) rfl (by kernel_rfl) (fun _ _ _ _ h => h) hC rfl ?_; apply Exists.intro; refine ⟨?_, ?_⟩
                  · rintro w ⟨r1, r2, r3, r4, r5, r6⟩; go_simp; try with_reducible rfl
                  simp only [Act.put, List.setIfInBounds_toArray, List.set_cons_succ, List.set_cons_zero]
                  refine Lim.stepR 12 (fun _ => trivial) rfl (by kernel_rfl) (fun _ _ _ _ h => h) hC rfl ?_; apply Exists.intro; refine ⟨?_, ?_⟩
                  · rintro w ⟨r1, r2, r3, r4, r5, r6⟩; go_simp; try with_reducible rfl
                  simp only [Act.put, List.setIfInBounds_toArray, List.set_cons_succ, List.set_cons_zero]
                  refine Lim.stepR 13 (fun _ => trivial) rfl (by kernel_rfl) (fun _ _ _ _ h => h) hC rfl ?_; apply Exists.intro; refine ⟨?_, ?_⟩
                  · rintro w ⟨r1, r2, r3, r4, r5, r6⟩; go_simp; try with_reducible rfl
                  simp only [Act.put, List.setIfInBounds_toArray, List.set_cons_succ, List.set_cons_zero]
                  refine Lim.stepR 14 (fun _ => trivial) rfl (by kernel_rfl) (fun _ _ _ _ h => h) hC rfl ?_; apply Exists.intro; refine ⟨?_, ?_⟩
                  · rintro w ⟨r1, r2, r3, r4, r5, r6⟩; go_simp; try with_reducible rfl
                  simp only [Act.put, List.setIfInBounds_toArray, List.set_cons_succ, List.set_cons_zero]
                  refine Lim.stepR 15 (fun _ => trivial) rfl (by kernel_rfl) (fun _ _ _ _ h => h) hC rfl ?_; apply Exists.intro; refine ⟨?_, ?_⟩
                  · rintro w ⟨r1, r2, r3, r4, r5, r6⟩; go_simp; try with_reducible rfl
                  simp only [Act.put, List.setIfInBounds_toArray, List.set_cons_succ, List.set_cons_zero]
                  refine Lim.stepR 16 (fun _ => trivial) rfl (by kernel_rfl) (fun _ _ _ _ h => h) hC rfl ?_; apply Exists.intro; refine ⟨?_, ?_⟩
                  · rintro w ⟨r1, r2, r3, r4, r5, r6⟩; go_simp; try with_reducible rfl
                  simp only [Act.put, List.setIfInBounds_toArray, List.set_cons_succ, List.set_cons_zero]
                  refine Lim.stepR 17 (fun _ => trivial) rfl (by kernel_rfl) (fun _ _ _ _ h => h) hC rfl ?_; apply Exists.intro; refine ⟨?_, ?_⟩
                  · rintro w ⟨r1, r2, r3, r4, r5, r6⟩; go_simp; try with_reducible rfl
                  simp only [Act.put, List.setIfInBounds_toArray, List.set_cons_succ, List.set_cons_zero]
                  refine Lim.stepR 18 (fun _ => trivial) rfl (by kernel_rfl) (fun _ _ _ _ h => h) hC rfl ?_; apply Exists.intro; refine ⟨?_, ?_⟩
                  · rintro w ⟨r1, r2, r3, r4, r5, r6⟩; go_simp; try with_reducible rfl
                  simp only [Act.put, List.setIfInBounds_toArray, List.set_cons_succ, List.set_cons_zero]
                  refine Lim.stepR 19 (fun _ => trivial) rfl (by kernel_rfl) (fun _ _ _ _ h => h) hC rfl ?_; apply Exists.intro; refine ⟨?_, ?_⟩
                  · rintro w ⟨r1, r2, r3, r4, r5, r6⟩; go_simp; try with_reducible rfl
                  simp only [Act.put, List.setIfInBounds_toArray, List.set_cons_succ, List.set_cons_zero]
                  refine Lim.stepR 20 (fun _ => trivial) rfl (by kernel_rfl) (fun _ _ _ _ h => h) hC rfl ?_; apply Exists.intro; refine ⟨?_, ?_⟩
                  · rintro w ⟨r1, r2, r3, r4, r5, r6⟩; go_simp; try with_reducible rfl
                  simp only [Act.put, List.setIfInBounds_toArray, List.set_cons_succ, List.set_cons_zero]
                  refine Lim.stepR 21 (fun _ => trivial) rfl (by kernel_rfl) (fun _ _ _ _ h => h) hC rfl ?_; apply Exists.intro; refine ⟨?_, ?_⟩
                  · rintro w ⟨r1, r2, r3, r4, r5, r6⟩; go_simp; try with_reducible rfl
                  simp only [Act.put, List.setIfInBounds_toArray, List.set_cons_succ, List.set_cons_zero]
                  refine Lim.stepR 22 (fun _ => trivial) rfl (by kernel_rfl) (fun _ _ _ _ h => h) hC rfl ?_; apply Exists.intro; refine ⟨?_, ?_⟩
                  · rintro w ⟨r1, r2, r3, r4, r5, r6⟩; go_simp; try with_reducible rfl
                  simp only [Act.put, List.setIfInBounds_toArray, List.set_cons_succ, List.set_cons_zero]
                  refine Lim.stepR 23 (fun _ => trivial) rfl (by kernel_rfl) (fun _ _ _ _ h => h) hC rfl ?_; apply Exists.intro; refine ⟨?_, ?_⟩
                  · rintro w ⟨r1, r2, r3, r4, r5, r6⟩; go_simp; try with_reducible rfl
                  simp only [Act.put, List.setIfInBounds_toArray, List.set_cons_succ, List.set_cons_zero]
                  refine Lim.stepR 24 (fun _ => trivial) rfl (by kernel_rfl) (fun _ _ _ _ h => h) hC rfl ?_; apply Exists.intro; refine ⟨?_, ?_⟩
                  · rintro w ⟨r1, r2, r3, r4, r5, r6⟩; go_simp; try with_reducible rfl
                  simp only [Act.put, List.setIfInBounds_toArray, List.set_cons_succ, List.set_cons_zero]
                  refine Lim.stepR 25 (fun _ => trivial) rfl (by kernel_rfl) (fun _ _ _ _ h => h) hC rfl ?_; apply Exists.intro; refine ⟨?_, ?_⟩
                  · rintro w ⟨r1, r2, r3, r4, r5, r6⟩; go_simp; try with_reducible rfl
                  simp only [Act.put, List.setIfInBounds_toArray, List.set_cons_succ, List.set_cons_zero]
                  refine Lim.stepR 26 (fun _ => trivial) rfl (by kernel_rfl) (fun _ _ _ _ h => h) hC rfl ?_; apply Exists.intro; refine ⟨?_, ?_⟩
                  · rintro w ⟨r1, r2, r3, r4, r5, r6⟩; go_simp; try with_reducible rfl
                  simp only [Act.put, List.setIfInBounds_toArray, List.set_cons_succ, List.set_cons_zero]
                  refine Lim.stepR 27 (fun _ => trivial) rfl (by kernel_rfl) (fun _ _ _ _ h => h) hC rfl ?_; apply Exists.intro; refine ⟨?_, ?_⟩
                  · rintro w ⟨r1, r2, r3, r4, r5, r6⟩; go_simp; try with_reducible rfl
                  simp only [Act.put, List.setIfInBounds_toArray, List.set_cons_succ, List.set_cons_zero]
                  refine Lim.stepR 28 (fun _ => trivial) rfl (by kernel_rfl) (fun _ _ _ _ h => h) hC rfl ?_; apply Exists.intro; refine ⟨?_, ?_⟩
                  · rintro w ⟨r1, r2, r3, r4, r5, r6⟩; go_simp; try with_reducible rfl
                  simp only [Act.put, List.setIfInBounds_toArray, List.set_cons_succ, List.set_cons_zero]
                  refine Lim.stepR 29 (fun _ => trivial) rfl (by kernel_rfl) (fun _ _ _ _ h => h) hC rfl ?_; apply Exists.intro; refine ⟨?_, ?_⟩
                  · rintro w ⟨r1, r2, r3, r4, r5, r6⟩; go_simp; try with_reducible rfl
                  simp only [Act.put, List.setIfInBounds_toArray, List.set_cons_succ, List.set_cons_zero]
                  refine Lim.stepR 30 (fun _ => trivial) rfl (by kernel_rfl) (fun _ _ _ _ h => h) hC rfl ?_; apply Exists.intro; refine ⟨?_, ?_⟩
                  · rintro w ⟨r1, r2, r3, r4, r5, r6⟩; go_simp; try with_reducible rfl
                  simp only [Act.put, List.setIfInBounds_toArray, List.set_cons_succ, List.set_cons_zero]
                  refine Lim.stepR 31 (fun _ => trivial) rfl (by kernel_rfl) (fun _ _ _ _ h => h) hC rfl ?_; apply Exists.intro; refine ⟨?_, ?_⟩
                  · rintro w ⟨r1, r2, r3, r4, r5, r6⟩; go_simp; try with_reducible rfl
                  simp only [Act.put, List.setIfInBounds_toArray, List.set_cons_succ, List.set_cons_zero]
                  refine Lim.stepR 32 (fun _ => trivial) rfl (by kernel_rfl) (fun _ _ _ _ h => h) hC rfl ?_; apply Exists.intro; refine ⟨?_, ?_⟩
                  · rintro w ⟨r1, r2, r3, r4, r5, r6⟩; go_simp; try with_reducible rfl
                  simp only [Act.put, List.setIfInBounds_toArray, List.set_cons_succ, List.set_cons_zero]
                  refine Lim.stepR 33 (fun _ => trivial) rfl (by kernel_rfl) (fun _ _ _ _ h => h) hC rfl ?_; apply Exists.intro; refine ⟨?_, ?_⟩
                  · rintro w ⟨r1, r2, r3, r4, r5, r6⟩; go_simp; try with_reducible rfl
                  simp only [Act.put, List.setIfInBounds_toArray, List.set_cons_succ, List.set_cons_zero]
                  refine Lim.stepR 34 (fun _ => trivial) rfl (by kernel_rfl) (fun _ _ _ _ h => h) hC rfl ?_; apply Exists.intro; refine ⟨?_, ?_⟩
                  · rintro w ⟨r1, r2, r3, r4, r5, r6⟩; go_simp; try with_reducible rfl
                  simp only [Act.put, List.setIfInBounds_toArray, List.set_cons_succ, List.set_cons_zero]
                  refine Lim.stepR 35 (fun _ => trivial) rfl (by kernel_rfl) (fun _ _ _ _ h => h) hC rfl ?_; apply Exists.intro; refine ⟨?_, ?_⟩
                  · rintro w ⟨r1, r2, r3, r4, r5, r6⟩; go_simp; try with_reducible rfl
                  simp only [Act.put, List.setIfInBounds_toArray, List.set_cons_succ, List.set_cons_zero]
                  refine Lim.stepR 36 (fun _ => trivial) rfl (by kernel_rfl) (fun _ _ _ _ h => h) hC rfl ?_; apply Exists.intro; refine ⟨?_, ?_⟩
                  · rintro w ⟨r1, r2, r3, r4, r5, r6⟩; go_simp; try with_reducible rfl
                  simp only [Act.put, List.setIfInBounds_toArray, List.set_cons_succ, List.set_cons_zero]
                  refine Lim.stepR 37 (fun _ => trivial) rfl (by kernel_rfl) (fun _ _ _ _ h => h) hC rfl ?_; apply Exists.intro; refine ⟨?_, ?_⟩
                  · rintro w ⟨r1, r2, r3, r4, r5, r6⟩; go_simp; try with_reducible rfl
                  simp only [Act.put, List.setIfInBounds_toArray, List.set_cons_succ, List.set_cons_zero]
                  refine Lim.stepR 38 (fun _ => trivial) rfl (by kernel_rfl) (fun _ _ _ _ h => h) hC rfl ?_; apply Exists.intro; refine ⟨?_, ?_⟩
                  · rintro w ⟨r1, r2, r3, r4, r5, r6⟩; go_simp; try with_reducible rfl
                  simp only [Act.put, List.setIfInBounds_toArray, List.set_cons_succ, List.set_cons_zero]
                  refine Lim.stepR 39 (fun _ => trivial) rfl (by kernel_rfl) (fun _ _ _ _ h => h) hC rfl ?_; apply Exists.intro; refine ⟨?_, ?_⟩
                  · rintro w ⟨r1, r2, r3, r4, r5, r6⟩; go_simp; try with_reducible rfl
                  simp only [Act.put, List.setIfInBounds_toArray, List.set_cons_succ, List.set_cons_zero]
                  refine Lim.stepR 40 (fun _ => trivial) rfl (by kernel_rfl) (fun _ _ _ _ h => h) hC rfl ?_; apply Exists.intro; refine ⟨?_, ?_⟩
                  · rintro w ⟨r1, r2, r3, r4, r5, r6⟩; go_simp; try with_reducible rfl
                  simp only [Act.put, List.setIfInBounds_toArray, List.set_cons_succ, List.set_cons_zero]
                  refine Lim.stepR 41 (fun _ => trivial) rfl (by kernel_rfl) (fun _ _ _ _ h => h) hC rfl ?_; apply Exists.intro; refine ⟨?_, ?_⟩
                  · rintro w ⟨r1, r2, r3, r4, r5, r6⟩; go_simp; try with_reducible rfl
                  simp only [Act.put, List.setIfInBounds_toArray, List.set_cons_succ, List.set_cons_zero]
                  refine Lim.stepD (by kernel_rfl) ?_
                  clear hC
                  go_wp2_with fail
                  go_roundw
                  case rel => exact ⟨j + 1, by omega, by go_num, Lib.hid hJ.out.drew⟩
                  case measure => simp [intOf]; omega
                · have g16 : decide ((0 : Int) < (rm : Int)) = false := by simp; omega
                  have g17 : decide (0 < rm) = false := by simpa using hz
                  clear hz hrm
                  have hdn : ¬ ((qv : Int) = (p : Int) + (m.wd : Int)) := by omega
                  go_upto_region 19 with (fail)
                  refine Lim.regC' (fun W => W.cell? ⟨q3, 0, none⟩ = some (.int .i64 m.wd) ∧ W.cell? ⟨q3, 1, none⟩ = some (.slice (some ⟨ga, 0, none⟩) m.n gc) ∧ W.cell? ⟨gl, p, none⟩ = some (.int .i64 rp) ∧ W.cell? ⟨ga, p, none⟩ = some (.int .i64 o) ∧ W.cell? ⟨gl, qv, none⟩ = some (.int .i64 rq) ∧ W.cell? ⟨ga, qv, none⟩ = some (.int .i64 o')) [] #[false, false, false, false, false, false, false, false, false, false, false, false, false, false, false, false, false, false, false, false, false, false, false, false, false, false, false, false, false, false, false, false, false, false, false, false, false, false, false, false, false, false] (by kernel_rfl) rfl ?_
                  refine Lim.stepR 0 (fun _ => trivial) rfl (by kernel_rfl) (fun _ _ _ _ h => h) hC rfl ?_; apply Exists.intro; refine ⟨?_, ?_⟩
                  · rintro w ⟨r1, r2, r3, r4, r5, r6⟩; go_simp; try with_reducible rfl
                  simp only [Act.put, List.setIfInBounds_toArray, List.set_cons_succ, List.set_cons_zero]
                  refine Lim.stepR 1 (fun _ => trivial) rfl (by kernel_rfl) (fun _ _ _ _ h => h) hC rfl ?_; apply Exists.intro; refine ⟨?_, ?_⟩
                  · rintro w ⟨r1, r2, r3, r4, r5, r6⟩; go_simp; try with_reducible rfl
                  simp only [Act.put, List.setIfInBounds_toArray, List.set_cons_succ, List.set_cons_zero]
                  refine Lim.stepR 2 (fun _ => trivial) rfl (by kernel_rfl) (fun _ _ _ _ h => h) hC rfl ?_; apply Exists.intro; refine ⟨?_, ?_⟩
                  · rintro w ⟨r1, r2, r3, r4, r5, r6⟩; go_simp; try with_reducible rfl
                  simp only [Act.put, List.setIfInBounds_toArray, List.set_cons_succ, List.set_cons_zero]
                  refine Lim.stepR 3 (fun _ => trivial) rfl (by kernel_rfl) (fun _ _ _ _ h => h) hC rfl ?_; apply Exists.intro; refine ⟨?_, ?_⟩
                  · rintro w ⟨r1, r2, r3, r4, r5, r6⟩; go_simp; try with_reducible rfl
                  simp only [Act.put, List.setIfInBounds_toArray, List.set_cons_succ, List.set_cons_zero]
                  refine Lim.stepR 4 (fun _ => trivial) rfl (by kernel_rfl) (fun _ _ _ _ h => h) hC rfl ?_; apply Exists.intro; refine ⟨?_, ?_⟩
                  · rintro w ⟨r1, r2, r3, r4, r5, r6⟩; go_simp; try with_reducible rfl
                  simp only [Act.put, List.setIfInBounds_toArray, List.set_cons_succ, List.set_cons_zero]
                  refine Lim.stepR 5 (fun _ => trivial) rfl (by kernel_rfl) (fun _ _ _ _ h => h) hC rfl ?_; apply Exists.intro; refine ⟨?_, ?_⟩
                  · rintro w ⟨r1, r2, r3, r4, r5, r6⟩; go_simp; try with_reducible rfl
                  simp only [Act.put, List.setIfInBounds_toArray, List.set_cons_succ, List.set_cons_zero]
                  refine Lim.stepR 6 (fun _ => trivial) rfl (by kernel_rfl) (fun _ _ _ _ h => h) hC rfl ?_; apply Exists.intro; refine ⟨?_, ?_⟩
                  · rintro w ⟨r1, r2, r3, r4, r5, r6⟩; go_simp; try with_reducible rfl
                  simp only [Act.put, List.setIfInBounds_toArray, List.set_cons_succ, List.set_cons_zero]
                  refine Lim.stepR 7 (fun _ => trivial) rfl (by kernel_rfl) (fun _ _ _ _ h => h) hC rfl ?_; apply Exists.intro; refine ⟨?_, ?_⟩
                  · rintro w ⟨r1, r2, r3, r4, r5, r6⟩; go_simp; try with_reducible rfl
                  simp only [Act.put, List.setIfInBounds_toArray, List.set_cons_succ, List.set_cons_zero]
                  refine Lim.stepR 8 (fun _ => trivial) rfl (by kernel_rfl) (fun _ _ _ _ h => h) hC rfl ?_; apply Exists.intro; refine ⟨?_, ?_⟩
                  · rintro w ⟨r1, r2, r3, r4, r5, r6⟩; go_simp; try with_reducible rfl
                  simp only [Act.put, List.setIfInBounds_toArray, List.set_cons_succ, List.set_cons_zero]
                  refine Lim.stepR 9 (fun _ => trivial) rfl (by kernel_rfl) (fun _ _ _ _ h => h) hC rfl ?_; apply Exists.intro; refine ⟨?_, ?_⟩
                  · rintro w ⟨r1, r2, r3, r4, r5, r6⟩; go_simp; try with_reducible rfl
                  simp only [Act.put, List.setIfInBounds_toArray, List.set_cons_succ, List.set_cons_zero]
                  refine Lim.stepR 10 (fun _ => trivial) rfl (by kernel_rfl) (fun _ _ _ _ h => h) hC rfl ?_; apply Exists.intro; refine ⟨?_, ?_⟩
                  · rintro w ⟨r1, r2, r3, r4, r5, r6⟩; go_simp; try with_reducible rfl
                  simp only [Act.put, List.setIfInBounds_toArray, List.set_cons_succ, List.set_cons_zero]
                  refine Lim.stepR 11 (fun _ => trivial) rfl (by kernel_rfl) (fun _ _ _ _ h => h) hC rfl ?_; apply Exists.intro; refine ⟨?_, ?_⟩
                  · rintro w ⟨r1, r2, r3, r4, r5, r6⟩; go_simp; try with_reducible rfl
                  simp only [Act.put, List.setIfInBounds_toArray, List.set_cons_succ, List.set_cons_zero]
                  refine Lim.stepR 12 (fun _ => trivial) rfl (by kernel_rfl) (fun _ _ _ _ h => h) hC rfl ?_; apply Exists.intro; refine ⟨?_, ?_⟩
                  · rintro w ⟨r1, r2, r3, r4, r5, r6⟩; go_simp; try with_reducible rfl
                  simp only [Act.put, List.setIfInBounds_toArray, List.set_cons_succ, List.set_cons_zero]
                  refine Lim.stepR 13 (fun _ => trivial) rfl (by kernel_rfl) (fun _ _ _ _ h => h) hC rfl ?_; apply Exists.intro; refine ⟨?_, ?_⟩
                  · rintro w ⟨r1, r2, r3, r4, r5, r6⟩; go_simp; try with_reducible rfl
                  simp only [Act.put, List.setIfInBounds_toArray, List.set_cons_succ, List.set_cons_zero]
                  refine Lim.stepR 14 (fun _ => trivial) rfl (by kernel_rfl) (fun _ _ _ _ h => h) hC rfl ?_; apply Exists.intro; refine ⟨?_, ?_⟩
                  · rintro w ⟨r1, r2, r3, r4, r5, r6⟩; go_simp; try with_reducible rfl
                  simp only [Act.put, List.setIfInBounds_toArray, List.set_cons_succ, List.set_cons_zero]
                  refine Lim.stepR 15 (fun _ => trivial) rfl (by kernel_rfl) (fun _ _ _ _ h => h) hC rfl ?_; apply Exists.intro; refine ⟨?_, ?_⟩
                  · rintro w ⟨r1, r2, r3, r4, r5, r6⟩; go_simp; try with_reducible rfl
                  simp only [Act.put, List.setIfInBounds_toArray, List.set_cons_succ, List.set_cons_zero]
                  refine Lim.stepR 16 (fun _ => trivial) rfl (by kernel_rfl) (fun _ _ _ _ h => h) hC rfl ?_; apply Exists.intro; refine ⟨?_, ?_⟩
                  · rintro w ⟨r1, r2, r3, r4, r5, r6⟩; go_simp; try with_reducible rfl
                  simp only [Act.put, List.setIfInBounds_toArray, List.set_cons_succ, List.set_cons_zero]
                  refine Lim.stepR 17 (fun _ => trivial) rfl (by kernel_rfl) (fun _ _ _ _ h => h) hC rfl ?_; apply Exists.intro; refine ⟨?_, ?_⟩
                  · rintro w ⟨r1, r2, r3, r4, r5, r6⟩; go_simp; try with_reducible rfl
                  simp only [Act.put, List.setIfInBounds_toArray, List.set_cons_succ, List.set_cons_zero]
                  refine Lim.stepR 18 (fun _ => trivial) rfl (by kernel_rfl) (fun _ _ _ _ h => h) hC rfl ?_; apply Exists.intro; refine ⟨?_, ?_⟩
                  · rintro w ⟨r1, r2, r3, r4, r5, r6⟩; go_simp; try with_reducible rfl
                  simp only [Act.put, List.setIfInBounds_toArray, List.set_cons_succ, List.set_cons_zero]
                  refine Lim.stepR 19 (fun _ => trivial) rfl (by kernel_rfl) (fun _ _ _ _ h => h) hC rfl ?_; apply Exists.intro; refine ⟨?_, ?_⟩
                  · rintro w ⟨r1, r2, r3, r4, r5, r6⟩; go_simp; try with_reducible rfl
                  simp only [Act.put, List.setIfInBounds_toArray, List.set_cons_succ, List.set_cons_zero]
                  refine Lim.stepS 20 (fun _ => trivial) rfl (by kernel_rfl) (fun _ _ _ _ h => h) hC rfl ?_
                  simp only [Act.put, List.setIfInBounds_toArray, List.set_cons_succ, List.set_cons_zero]
                  refine Lim.stepS 21 (fun _ => trivial) rfl (by kernel_rfl) (fun _ _ _ _ h => h) hC rfl ?_
                  simp only [Act.put, List.setIfInBounds_toArray, List.set_cons_succ, List.set_cons_zero]
                  refine Lim.stepS 22 (fun _ => trivial) rfl (by kernel_rfl) (fun _ _ _ _ h => h) hC rfl ?_
                  simp only [Act.put, List.setIfInBounds_toArray, List.set_cons_succ, List.set_cons_zero]
                  refine Lim.stepS 23 (fun _ => trivial) rfl (by kernel_rfl) (fun _ _ _ _ h => h) hC rfl ?_
                  simp only [Act.put, List.setIfInBounds_toArray, List.set_cons_succ, List.set_cons_zero]
                  refine Lim.stepS 24 (fun _ => trivial) rfl (by kernel_rfl) (fun _ _ _ _ h => h) hC rfl ?_
                  simp only [Act.put, List.setIfInBounds_toArray, List.set_cons_succ, List.set_cons_zero]
                  refine Lim.stepS 25 (fun _ => trivial) rfl (by kernel_rfl) (fun _ _ _ _ h => h) hC rfl ?_
                  simp only [Act.put, List.setIfInBounds_toArray, List.set_cons_succ, List.set_cons_zero]
                  refine Lim.stepS 26 (fun _ => trivial) rfl (by kernel_rfl) (fun _ _ _ _ h => h) hC rfl ?_
                  simp only [Act.put, List.setIfInBounds_toArray, List.set_cons_succ, List.set_cons_zero]
                  refine Lim.stepS 27 (fun _ => trivial) rfl (by kernel_rfl) (fun _ _ _ _ h => h) hC rfl ?_
                  simp only [Act.put, List.setIfInBounds_toArray, List.set_cons_succ, List.set_cons_zero]
                  refine Lim.stepS 28 (fun _ => trivial) rfl (by kernel_rfl) (fun _ _ _ _ h => h) hC rfl ?_
                  simp only [Act.put, List.setIfInBounds_toArray, List.set_cons_succ, List.set_cons_zero]
                  refine Lim.stepS 29 (fun _ => trivial) rfl (by kernel_rfl) (fun _ _ _ _ h => h) hC rfl ?_
                  simp only [Act.put, List.setIfInBounds_toArray, List.set_cons_succ, List.set_cons_zero]
                  refine Lim.stepS 30 (fun _ => trivial) rfl (by kernel_rfl) (fun _ _ _ _ h => h) hC rfl ?_
                  simp only [Act.put, List.setIfInBounds_toArray, List.set_cons_succ, List.set_cons_zero]
                  refine Lim.stepS 31 (fun _ => trivial) rfl (by kernel_rfl) (fun _ _ _ _ h => h) hC rfl ?_
                  simp only [Act.put, List.setIfInBounds_toArray, List.set_cons_succ, List.set_cons_zero]
                  refine Lim.stepS 32 (fun _ => trivial) rfl (by kernel_rfl) (fun _ _ _ _ h => h) hC rfl ?_
                  simp only [Act.put, List.setIfInBounds_toArray, List.set_cons_succ, List.set_cons_zero]
                  refine Lim.stepS 33 (fun _ => trivial) rfl (by kernel_rfl) (fun _ _ _ _ h => h) hC rfl ?_
                  simp only [Act.put, List.setIfInBounds_toArray, List.set_cons_succ, List.set_cons_zero]
                  refine Lim.stepS 34 (fun _ => trivial) rfl (by kernel_rfl) (fun _ _ _ _ h => h) hC rfl ?_
                  simp only [Act.put, List.setIfInBounds_toArray, List.set_cons_succ, List.set_cons_zero]
                  refine Lim.stepS 35 (fun _ => trivial) rfl (by kernel_rfl) (fun _ _ _ _ h => h) hC rfl ?_
                  simp only [Act.put, List.setIfInBounds_toArray, List.set_cons_succ, List.set_cons_zero]
                  refine Lim.stepS 36 (fun _ => trivial) rfl (by kernel_rfl) (fun _ _ _ _ h => h) hC rfl ?_
                  simp only [Act.put, List.setIfInBounds_toArray, List.set_cons_succ, List.set_cons_zero]
                  refine Lim.stepS 37 (fun _ => trivial) rfl (by kernel_rfl) (fun _ _ _ _ h => h) hC rfl ?_
                  simp only [Act.put, List.setIfInBounds_toArray, List.set_cons_succ, List.set_cons_zero]
                  refine Lim.stepS 38 (fun _ => trivial) rfl (by kernel_rfl) (fun _ _ _ _ h => h) hC rfl ?_
                  simp only [Act.put, List.setIfInBounds_toArray, List.set_cons_succ, List.set_cons_zero]
                  refine Lim.stepS 39 (fun _ => trivial) rfl (by kernel_rfl) (fun _ _ _ _ h => h) hC rfl ?_
                  simp only [Act.put, List.setIfInBounds_toArray, List.set_cons_succ, List.set_cons_zero]
                  refine Lim.stepS 40 (fun _ => trivial) rfl (by kernel_rfl) (fun _ _ _ _ h => h) hC rfl ?_
                  simp only [Act.put, List.setIfInBounds_toArray, List.set_cons_succ, List.set_cons_zero]
                  refine Lim.stepR 41 (fun _ => trivial) rfl (by kernel_rfl) (fun _ _ _ _ h => h) hC rfl ?_; apply Exists.intro; refine ⟨?_, ?_⟩
                  · rintro w ⟨r1, r2, r3, r4, r5, r6⟩; go_simp; try with_reducible rfl
                  simp only [Act.put, List.setIfInBounds_toArray, List.set_cons_succ, List.set_cons_zero]
                  refine Lim.stepD (by kernel_rfl) ?_
                  clear hC
                  go_wp2_with fail
                  go_roundw
                  case rel => exact ⟨j + 1, by omega, by go_num, Lib.hid hJ.out.drew⟩
                  case measure => simp [intOf]; omega
            · have g4 : decide (qv < m.n) = false := by simpa using hq
              have hC : (fun W => W.cell? ⟨q3, 0, none⟩ = some (.int .i64 m.wd) ∧ W.cell? ⟨q3, 1, none⟩ = some (.slice (some ⟨ga, 0, none⟩) m.n gc)) wr.drew := ⟨k0, k1⟩
              clear hq
              go_upto_region 19 with (fail)
              refine Lim.regC' (fun W => W.cell? ⟨q3, 0, none⟩ = some (.int .i64 m.wd) ∧ W.cell? ⟨q3, 1, none⟩ = some (.slice (some ⟨ga, 0, none⟩) m.n gc)) [] #[false, false, false, false, false, false, false, false, false, false, false, false, false, false, false, false, false, false, false, false, false, false, false, false, false, false, false, false, false, false, false, false, false, false, false, false, false, false, false, false, false, false] (by kernel_rfl) rfl ?_
              refine Lim.stepR 0 (fun _ => trivial) rfl (by kernel_rfl) (fun _ _ _ _ h => h) hC rfl ?_; apply Exists.intro; refine ⟨?_, ?_⟩
              · rintro w ⟨r1, r2⟩; go_simp; try with_reducible rfl
              simp only [Act.put, List.setIfInBounds_toArray, List.set_cons_succ, List.set_cons_zero]
              refine Lim.stepR 1 (fun _ => trivial) rfl (by kernel_rfl) (fun _ _ _ _ h => h) hC rfl ?_; apply Exists.intro; refine ⟨?_, ?_⟩
              · rintro w ⟨r1, r2⟩; go_simp; try with_reducible rfl
              simp only [Act.put, List.setIfInBounds_toArray, List.set_cons_succ, List.set_cons_zero]
              refine Lim.stepR 2 (fun _ => trivial) rfl (by kernel_rfl) (fun _ _ _ _ h => h) hC rfl ?_; apply Exists.intro; refine ⟨?_, ?_⟩
              · rintro w ⟨r1, r2⟩; go_simp; try with_reducible rfl
              simp only [Act.put, List.setIfInBounds_toArray, List.set_cons_succ, List.set_cons_zero]
              refine Lim.stepR 3 (fun _ => trivial) rfl (by kernel_rfl) (fun _ _ _ _ h => h) hC rfl ?_; apply Exists.intro; refine ⟨?_, ?_⟩
              · rintro w ⟨r1, r2⟩; go_simp; try with_reducible rfl
              simp only [Act.put, List.setIfInBounds_toArray, List.set_cons_succ, List.set_cons_zero]
              refine Lim.stepR 4 (fun _ => trivial) rfl (by kernel_rfl) (fun _ _ _ _ h => h) hC rfl ?_; apply Exists.intro; refine ⟨?_, ?_⟩
              · rintro w ⟨r1, r2⟩; go_simp; try with_reducible rfl
              simp only [Act.put, List.setIfInBounds_toArray, List.set_cons_succ, List.set_cons_zero]
              refine Lim.stepS 5 (fun _ => trivial) rfl (by kernel_rfl) (fun _ _ _ _ h => h) hC rfl ?_
              simp only [Act.put, List.setIfInBounds_toArray, List.set_cons_succ, List.set_cons_zero]
              refine Lim.stepS 6 (fun _ => trivial) rfl (by kernel_rfl) (fun _ _ _ _ h => h) hC rfl ?_
              simp only [Act.put, List.setIfInBounds_toArray, List.set_cons_succ, List.set_cons_zero]
              refine Lim.stepS 7 (fun _ => trivial) rfl (by kernel_rfl) (fun _ _ _ _ h => h) hC rfl ?_
              simp only [Act.put, List.setIfInBounds_toArray, List.set_cons_succ, List.set_cons_zero]
              refine Lim.stepS 8 (fun _ => trivial) rfl (by kernel_rfl) (fun _ _ _ _ h => h) hC rfl ?_
              simp only [Act.put, List.setIfInBounds_toArray, List.set_cons_succ, List.set_cons_zero]
              refine Lim.stepS 9 (fun _ => trivial) rfl (by kernel_rfl) (fun _ _ _ _ h => h) hC rfl ?_
              simp only [Act.put, List.setIfInBounds_toArray, List.set_cons_succ, List.set_cons_zero]
              refine Lim.stepS 10 (fun _ => trivial) rfl (by kernel_rfl) (fun _ _ _ _ h => h) hC rfl ?_
              simp only [Act.put, List.setIfInBounds_toArray, List.set_cons_succ, List.set_cons_zero]
              refine Lim.stepS 11 (fun _ => trivial) rfl (by kernel_rfl) (fun _ _ _ _ h => h) hC rfl ?_
              simp only [Act.put, List.setIfInBounds_toArray, List.set_cons_succ, List.set_cons_zero]
              refine Lim.stepS 12 (fun _ => trivial) rfl (by kernel_rfl) (fun _ _ _ _ h => h) hC rfl ?_
              simp only [Act.put, List.setIfInBounds_toArray, List.set_cons_succ, List.set_cons_zero]
              refine Lim.stepS 13 (fun _ => trivial) rfl (by kernel_rfl) (fun _ _ _ _ h => h) hC rfl ?_
              simp only [Act.put, List.setIfInBounds_toArray, List.set_cons_succ, List.set_cons_zero]
              refine Lim.stepS 14 (fun _ => trivial) rfl (by kernel_rfl) (fun _ _ _ _ h => h) hC rfl ?_
              simp only [Act.put, List.setIfInBounds_toArray, List.set_cons_succ, List.set_cons_zero]
              refine Lim.stepS 15 (fun _ => trivial) rfl (by kernel_rfl) (fun _ _ _ _ h => h) hC rfl ?_
              simp only [Act.put, List.setIfInBounds_toArray, List.set_cons_succ, List.set_cons_zero]
              refine Lim.stepS 16 (fun _ => trivial) rfl (by kernel_rfl) (fun _ _ _ _ h => h) hC rfl ?_
              simp only [Act.put, List.setIfInBounds_toArray, List.set_cons_succ, List.set_cons_zero]
              refine Lim.stepS 17 (fun _ => trivial) rfl (by kernel_rfl) (fun _ _ _ _ h => h) hC rfl ?_
              simp only [Act.put, List.setIfInBounds_toArray, List.set_cons_succ, List.set_cons_zero]
              refine Lim.stepR 18 (fun _ => trivial) rfl (by kernel_rfl) (fun _ _ _ _ h => h) hC rfl ?_; apply Exists.intro; refine ⟨?_, ?_⟩
              · rintro w ⟨r1, r2⟩; go_simp; try with_reducible rfl
              simp only [Act.put, List.setIfInBounds_toArray, List.set_cons_succ, List.set_cons_zero]
              refine Lim.stepR 19 (fun _ => trivial) rfl (by kernel_rfl) (fun _ _ _ _ h => h) hC rfl ?_; apply Exists.intro; refine ⟨?_, ?_⟩
              · rintro w ⟨r1, r2⟩; go_simp; try with_reducible rfl
              simp only [Act.put, List.setIfInBounds_toArray, List.set_cons_succ, List.set_cons_zero]
              refine Lim.stepS 20 (fun _ => trivial) rfl (by kernel_rfl) (fun _ _ _ _ h => h) hC rfl ?_
              simp only [Act.put, List.setIfInBounds_toArray, List.set_cons_succ, List.set_cons_zero]
              refine Lim.stepS 21 (fun _ => trivial) rfl (by kernel_rfl) (fun _ _ _ _ h => h) hC rfl ?_
              simp only [Act.put, List.setIfInBounds_toArray, List.set_cons_succ, List.set_cons_zero]
              refine Lim.stepS 22 (fun _ => trivial) rfl (by kernel_rfl) (fun _ _ _ _ h => h) hC rfl ?_
              simp only [Act.put, List.setIfInBounds_toArray, List.set_cons_succ, List.set_cons_zero]
              refine Lim.stepS 23 (fun _ => trivial) rfl (by kernel_rfl) (fun _ _ _ _ h => h) hC rfl ?_
              simp only [Act.put, List.setIfInBounds_toArray, List.set_cons_succ, List.set_cons_zero]
              refine Lim.stepS 24 (fun _ => trivial) rfl (by kernel_rfl) (fun _ _ _ _ h => h) hC rfl ?_
              simp only [Act.put, List.setIfInBounds_toArray, List.set_cons_succ, List.set_cons_zero]
              refine Lim.stepS 25 (fun _ => trivial) rfl (by kernel_rfl) (fun _ _ _ _ h => h) hC rfl ?_
              simp only [Act.put, List.setIfInBounds_toArray, List.set_cons_succ, List.set_cons_zero]
              refine Lim.stepS 26 (fun _ => trivial) rfl (by kernel_rfl) (fun _ _ _ _ h => h) hC rfl ?_
              simp only [Act.put, List.setIfInBounds_toArray, List.set_cons_succ, List.set_cons_zero]
              refine Lim.stepS 27 (fun _ => trivial) rfl (by kernel_rfl) (fun _ _ _ _ h => h) hC rfl ?_
              simp only [Act.put, List.setIfInBounds_toArray, List.set_cons_succ, List.set_cons_zero]
              refine Lim.stepS 28 (fun _ => trivial) rfl (by kernel_rfl) (fun _ _ _ _ h => h) hC rfl ?_
              simp only [Act.put, List.setIfInBounds_toArray, List.set_cons_succ, List.set_cons_zero]
              refine Lim.stepS 29 (fun _ => trivial) rfl (by kernel_rfl) (fun _ _ _ _ h => h) hC rfl ?_
              simp only [Act.put, List.setIfInBounds_toArray, List.set_cons_succ, List.set_cons_zero]
              refine Lim.stepS 30 (fun _ => trivial) rfl (by kernel_rfl) (fun _ _ _ _ h => h) hC rfl ?_
              simp only [Act.put, List.setIfInBounds_toArray, List.set_cons_succ, List.set_cons_zero]
              refine Lim.stepS 31 (fun _ => trivial) rfl (by kernel_rfl) (fun _ _ _ _ h => h) hC rfl ?_
              simp only [Act.put, List.setIfInBounds_toArray, List.set_cons_succ, List.set_cons_zero]
              refine Lim.stepS 32 (fun _ => trivial) rfl (by kernel_rfl) (fun _ _ _ _ h => h) hC rfl ?_
              simp only [Act.put, List.setIfInBounds_toArray, List.set_cons_succ, List.set_cons_zero]
              refine Lim.stepS 33 (fun _ => trivial) rfl (by kernel_rfl) (fun _ _ _ _ h => h) hC rfl ?_
              simp only [Act.put, List.setIfInBounds_toArray, List.set_cons_succ, List.set_cons_zero]
              refine Lim.stepS 34 (fun _ => trivial) rfl (by kernel_rfl) (fun _ _ _ _ h => h) hC rfl ?_
              simp only [Act.put, List.setIfInBounds_toArray, List.set_cons_succ, List.set_cons_zero]
              refine Lim.stepS 35 (fun _ => trivial) rfl (by kernel_rfl) (fun _ _ _ _ h => h) hC rfl ?_
              simp only [Act.put, List.setIfInBounds_toArray, List.set_cons_succ, List.set_cons_zero]
              refine Lim.stepS 36 (fun _ => trivial) rfl (by kernel_rfl) (fun _ _ _ _ h => h) hC rfl ?_
              simp only [Act.put, List.setIfInBounds_toArray, List.set_cons_succ, List.set_cons_zero]
              refine Lim.stepS 37 (fun _ => trivial) rfl (by kernel_rfl) (fun _ _ _ _ h => h) hC rfl ?_
              simp only [Act.put, List.setIfInBounds_toArray, List.set_cons_succ, List.set_cons_zero]
              refine Lim.stepS 38 (fun _ => trivial) rfl (by kernel_rfl) (fun _ _ _ _ h => h) hC rfl ?_
              simp only [Act.put, List.setIfInBounds_toArray, List.set_cons_succ, List.set_cons_zero]
              refine Lim.stepS 39 (fun _ => trivial) rfl (by kernel_rfl) (fun _ _ _ _ h => h) hC rfl ?_
              simp only [Act.put, List.setIfInBounds_toArray, List.set_cons_succ, List.set_cons_zero]
              refine Lim.stepS 40 (fun _ => trivial) rfl (by kernel_rfl) (fun _ _ _ _ h => h) hC rfl ?_
              simp only [Act.put, List.setIfInBounds_toArray, List.set_cons_succ, List.set_cons_zero]
              refine Lim.stepR 41 (fun _ => trivial) rfl (by kernel_rfl) (fun _ _ _ _ h => h) hC rfl ?_; apply Exists.intro; refine ⟨?_, ?_⟩
              · rintro w ⟨r1, r2⟩; go_simp; try with_reducible rfl
              simp only [Act.put, List.setIfInBounds_toArray, List.set_cons_succ, List.set_cons_zero]
              refine Lim.stepD (by kernel_rfl) ?_
              clear hC
              go_wp2_with fail
              go_roundw
              case rel => exact ⟨j + 1, by omega, by go_num, Lib.hid hJ.out.drew⟩
              case measure => simp [intOf]; omega
          · obtain rfl : j = 2 := by omega
            go_wp2_with fail
            go_roundw
            case rel => exact ⟨p + 1, nx + 1, by omega, by go_num, by go_num, Lib.hid ⟨HBB.out.trans (hJ.out.mono HBB.out.size), HN2.out⟩⟩
            case measure => simp [intOf]; omega
      · have g3 : ((rp : Int) == (nx : Int)) = false := by rw [beq_eq_false_iff_ne]; omega
        have HN2 : Hid (NxI r (p + 1) nx ∧ nx ≤ p + 1) := Lib.hid ⟨by have h := HNX.out; rw [if_neg hen] at h; exact h, by have := hI.out.2.2; omega⟩
        clear hen HNX
        go_wp2_with fail
        generalize wr.alloc (.cells #[.int .i64 ((p : Int) + 1), .int .i64 ((p : Int) + m.wd)] 3) = wb at hbb b0 b1 ⊢
        obtain ⟨qb, hqb⟩ : ∃ q, q = wr.heap.size := ⟨_, rfl⟩
        rw [← hqb] at b0 b1 ⊢
        have HBB := Lib.hid (hI.out.1.trans (hbb.mono hI.out.1.size))
        clear hbb hqb d0 g1 g2 g3
        go_loopw [101] (fun iv W => ∃ j : Nat, j ≤ 2 ∧ iv = .int .i64 j ∧ Hid (Below wb.heap.size wb W)) (fun iv _ => 2 - (intOf iv).toNat)
        case atStart => exact ⟨0, by omega, rfl, Lib.hid (Below.refl _ _)⟩
        case round =>
          obtain ⟨j, hj, rfl, hJ⟩ := hrel
          by_cases hj2 : j < 2
          · have hj64 : (j : Int) < 2 := by omega
            obtain ⟨qv, hqv, cq⟩ : ∃ qv : Nat, (qv = p + 1 ∨ qv = p + m.wd) ∧ wr.cell? ⟨qb, j, none⟩ = some (.int .i64 qv) := by
              by_cases e : j = 0
              · subst e; exact ⟨p + 1, .inl rfl, by have h := hJ.out.on b0; rw [h]; rfl⟩
              · obtain rfl : j = 1 := by omega
                exact ⟨p + m.wd, .inr rfl, by have h := hJ.out.on b1; rw [h]; rfl⟩
            have HQV := Lib.hid hqv
            have hq72 : qv ≤ 72 := by omega
            have HBJ := Lib.hid (HBB.out.trans (hJ.out.mono HBB.out.size))
            obtain ⟨k0, k1⟩ := HK.out _ HBJ.out
            have hwn : ¬ m.wd = 0 := by omega
            have hwp : IntKind.i64.wrap ((p : Int) + (m.wd : Int)) = (p : Int) + (m.wd : Int) := IntWalk.i64_in _ (by omega)
            have hwq : IntKind.i64.wrap (qv : Int) = (qv : Int) := IntWalk.i64_in _ (by omega)
            clear b0 b1 hqv
            by_cases hq : qv < m.n
            · have g4 : decide (qv < m.n) = true := by simpa using hq
              obtain ⟨rq, hrq⟩ : ∃ rq, rq = r qv := ⟨_, rfl⟩
              obtain ⟨o, ho⟩ : ∃ o, o = m.own p := ⟨_, rfl⟩
              obtain ⟨o', ho'⟩ : ∃ o', o' = m.own qv := ⟨_, rfl⟩
              have c1 := ((HC.out _ HBJ.out).1 p hlt).1
              have c2 := ((HC.out _ HBJ.out).1 p hlt).2
              have c3 := ((HC.out _ HBJ.out).1 qv hq).1
              have c4 := ((HC.out _ HBJ.out).1 qv hq).2
              rw [← HRP.out] at c1
              rw [← ho] at c2
              rw [← hrq] at c3
              rw [← ho'] at c4
              have hC : (fun W => W.cell? ⟨q3, 0, none⟩ = some (.int .i64 m.wd) ∧ W.cell? ⟨q3, 1, none⟩ = some (.slice (some ⟨ga, 0, none⟩) m.n gc) ∧ W.cell? ⟨gl, p, none⟩ = some (.int .i64 rp) ∧ W.cell? ⟨ga, p, none⟩ = some (.int .i64 o) ∧ W.cell? ⟨gl, qv, none⟩ = some (.int .i64 rq) ∧ W.cell? ⟨ga, qv, none⟩ = some (.int .i64 o')) wr.drew := ⟨k0, k1, c1, c2, c3, c4⟩
              have HCMP : Hid (nb m p qv → ((rp : Int) == (rq : Int)) = (o == o')) := Lib.hid fun hnb => by
                have h := HR.out.1.beside hlt hq hnb
                rw [← HRP.out, ← hrq, ← ho, ← ho'] at h
                by_cases e : rp = rq
                · have e2 := h.1 e; simp [e, e2]
                · have e2 : ¬ o = o' := fun e2 => e (h.2 e2)
                  have e3 : ¬ (rp : Int) = (rq : Int) := by omega
                  have q1 : ((rp : Int) == (rq : Int)) = false := beq_eq_false_iff_ne.2 e3
                  have q2 : (o == o') = false := beq_eq_false_iff_ne.2 e2
                  rw [q1, q2]
              clear hrq ho ho' c1 c2 c3 c4
              by_cases hd : qv = p + m.wd
              · have g11 : (p : Int) + (m.wd : Int) = (qv : Int) := by omega
                have gc0 := HCMP.out (by rw [hd]; exact nb_down (by omega))
                clear hd
                go_upto_region 19 with (fail)
                refine Lim.regC' (fun W => W.cell? ⟨q3, 0, none⟩ = some (.int .i64 m.wd) ∧ W.cell? ⟨q3, 1, none⟩ = some (.slice (some ⟨ga, 0, none⟩) m.n gc) ∧ W.cell? ⟨gl, p, none⟩ = some (.int .i64 rp) ∧ W.cell? ⟨ga, p, none⟩ = some (.int .i64 o) ∧ W.cell? ⟨gl, qv, none⟩ = some (.int .i64 rq) ∧ W.cell? ⟨ga, qv, none⟩ = some (.int .i64 o')) [] #[false, false, false, false, false, false, false, false, false, false, false, false, false, false, false, false, false, false, false, false, false, false, false, false, false, false, false, false, false, false, false, false, false, false, false, false, false, false, false, false, false, false] (by kernel_rfl) rfl ?_
                refine Lim.stepR 0 (fun _ => trivial) rfl (by kernel_rfl) (fun _ _ _ _ h => h) hC rfl ?_; apply Exists.intro; refine ⟨?_, ?_⟩
                · rintro w ⟨r1, r2, r3, r4, r5, r6⟩; go_simp; try with_reducible rfl
                simp only [Act.put, List.setIfInBounds_toArray, List.set_cons_succ, List.set_cons_zero]
                refine Lim.stepR 1 (fun _ => trivial) rfl (by kernel_rfl) (fun _ _ _ _ h => h) hC rfl ?_; apply Exists.intro; refine ⟨?_, ?_⟩
                · rintro w ⟨r1, r2, r3, r4, r5, r6⟩; go_simp; try with_reducible rfl
                simp only [Act.put, List.setIfInBounds_toArray, List.set_cons_succ, List.set_cons_zero]
                refine Lim.stepR 2 (fun _ => trivial) rfl (by kernel_rfl) (fun _ _ _ _ h => h) hC rfl ?_; apply Exists.intro; refine ⟨?_, ?_⟩
                · rintro w ⟨r1, r2, r3, r4, r5, r6⟩; go_simp; try with_reducible rfl
                simp only [Act.put, List.setIfInBounds_toArray, List.set_cons_succ, List.set_cons_zero]
                refine Lim.stepR 3 (fun _ => trivial) rfl (by kernel_rfl) (fun _ _ _ _ h => h) hC rfl ?_; apply Exists.intro; refine ⟨?_, ?_⟩
                · rintro w ⟨r1, r2, r3, r4, r5, r6⟩; go_simp; try with_reducible rfl
                simp only [Act.put, List.setIfInBounds_toArray, List.set_cons_succ, List.set_cons_zero]
                refine Lim.stepR 4 (fun _ => trivial) rfl (by kernel_rfl) (fun _ _ _ _ h => h) hC rfl ?_; apply Exists.intro; refine ⟨?_, ?_⟩
                · rintro w ⟨r1, r2, r3, r4, r5, r6⟩; go_simp; try with_reducible rfl
                simp only [Act.put, List.setIfInBounds_toArray, List.set_cons_succ, List.set_cons_zero]
                refine Lim.stepR 5 (fun _ => trivial) rfl (by kernel_rfl) (fun _ _ _ _ h => h) hC rfl ?_; apply Exists.intro; refine ⟨?_, ?_⟩
                · rintro w ⟨r1, r2, r3, r4, r5, r6⟩; go_simp; try with_reducible rfl
                simp only [Act.put, List.setIfInBounds_toArray, List.set_cons_succ, List.set_cons_zero]
                refine Lim.stepR 6 (fun _ => trivial) rfl (by kernel_rfl) (fun _ _ _ _ h => h) hC rfl ?_; apply Exists.intro; refine ⟨?_, ?_⟩
                · rintro w ⟨r1, r2, r3, r4, r5, r6⟩; go_simp; try with_reducible rfl
                simp only [Act.put, List.setIfInBounds_toArray, List.set_cons_succ, List.set_cons_zero]
                refine Lim.stepR 7 (fun _ => trivial) rfl (by kernel_rfl) (fun _ _ _ _ h => h) hC rfl ?_; apply Exists.intro; refine ⟨?_, ?_⟩
                · rintro w ⟨r1, r2, r3, r4, r5, r6⟩; go_simp; try with_reducible rfl
                simp only [Act.put, List.setIfInBounds_toArray, List.set_cons_succ, List.set_cons_zero]
                refine Lim.stepR 8 (fun _ => trivial) rfl (by kernel_rfl) (fun _ _ _ _ h => h) hC rfl ?_; apply Exists.intro; refine ⟨?_, ?_⟩
                · rintro w ⟨r1, r2, r3, r4, r5, r6⟩; go_simp; try with_reducible rfl
                simp only [Act.put, List.setIfInBounds_toArray, List.set_cons_succ, List.set_cons_zero]
                refine Lim.stepR 9 (fun _ => trivial) rfl (by kernel_rfl) (fun _ _ _ _ h => h) hC rfl ?_; apply Exists.intro; refine ⟨?_, ?_⟩
                · rintro w ⟨r1, r2, r3, r4, r5, r6⟩; go_simp; try with_reducible rfl
                simp only [Act.put, List.setIfInBounds_toArray, List.set_cons_succ, List.set_cons_zero]
                refine Lim.stepR 10 (fun _ => trivial) rfl (by kernel_rfl) (fun _ _ _ _ h => h) hC rfl ?_; apply Exists.intro; refine ⟨?_, ?_⟩
                · rintro w ⟨r1, r2, r3, r4, r5, r6⟩; go_simp; try with_reducible rfl
                simp only [Act.put, List.setIfInBounds_toArray, List.set_cons_succ, List.set_cons_zero]
                refine Lim.stepR 11 (fun _ => trivial) rfl (by kernel_rfl) (fun _ _ _ _ h => h) hC rfl ?_; apply Exists.intro; refine ⟨?_, ?_⟩
                · rintro w ⟨r1, r2, r3, r4, r5, r6⟩; go_simp; try with_reducible rfl
                simp only [Act.put, List.setIfInBounds_toArray, List.set_cons_succ, List.set_cons_zero]
                refine Lim.stepS 12 (fun _ => trivial) rfl (by kernel_rfl) (fun _ _ _ _ h => h) hC rfl ?_
                simp only [Act.put, List.setIfInBounds_toArray, List.set_cons_succ, List.set_cons_zero]
                refine Lim.stepS 13 (fun _ => trivial) rfl (by kernel_rfl) (fun _ _ _ _ h => h) hC rfl ?_
                simp only [Act.put, List.setIfInBounds_toArray, List.set_cons_succ, List.set_cons_zero]
                refine Lim.stepS 14 (fun _ => trivial) rfl (by kernel_rfl) (fun _ _ _ _ h => h) hC rfl ?_
                simp only [Act.put, List.setIfInBounds_toArray, List.set_cons_succ, List.set_cons_zero]
                refine Lim.stepS 15 (fun _ => trivial) rfl (by kernel_rfl) (fun _ _ _ _ h => h) hC rfl ?_
                simp only [Act.put, List.setIfInBounds_toArray, List.set_cons_succ, List.set_cons_zero]
                refine Lim.stepS 16 (fun _ => trivial) rfl (by kernel_rfl) (fun _ _ _ _ h => h) hC rfl ?_
                simp only [Act.put, List.setIfInBounds_toArray, List.set_cons_succ, List.set_cons_zero]
                refine Lim.stepR 17 (fun _ => trivial) rfl (by kernel_rfl) (fun _ _ _ _ h => h) hC rfl ?_; apply Exists.intro; refine ⟨?_, ?_⟩
                · rintro w ⟨r1, r2, r3, r4, r5, r6⟩; go_simp; try with_reducible rfl
                simp only [Act.put, List.setIfInBounds_toArray, List.set_cons_succ, List.set_cons_zero]
                refine Lim.stepR 18 (fun _ => trivial) rfl (by kernel_rfl) (fun _ _ _ _ h => h) hC rfl ?_; apply Exists.intro; refine ⟨?_, ?_⟩
                · rintro w ⟨r1, r2, r3, r4, r5, r6⟩; go_simp; try with_reducible rfl
                simp only [Act.put, List.setIfInBounds_toArray, List.set_cons_succ, List.set_cons_zero]
                refine Lim.stepR 19 (fun _ => trivial) rfl (by kernel_rfl) (fun _ _ _ _ h => h) hC rfl ?_; apply Exists.intro; refine ⟨?_, ?_⟩
                · rintro w ⟨r1, r2, r3, r4, r5, r6⟩; go_simp; try with_reducible rfl
                simp only [Act.put, List.setIfInBounds_toArray, List.set_cons_succ, List.set_cons_zero]
                refine Lim.stepR 20 (fun _ => trivial) rfl (by kernel_rfl) (fun _ _ _ _ h => h) hC rfl ?_; apply Exists.intro; refine ⟨?_, ?_⟩
                · rintro w ⟨r1, r2, r3, r4, r5, r6⟩; go_simp; try with_reducible rfl
                simp only [Act.put, List.setIfInBounds_toArray, List.set_cons_succ, List.set_cons_zero]
                refine Lim.stepR 21 (fun _ => trivial) rfl (by kernel_rfl) (fun _ _ _ _ h => h) hC rfl ?_; apply Exists.intro; refine ⟨?_, ?_⟩
                · rintro w ⟨r1, r2, r3, r4, r5, r6⟩; go_simp; try with_reducible rfl
                simp only [Act.put, List.setIfInBounds_toArray, List.set_cons_succ, List.set_cons_zero]
                refine Lim.stepR 22 (fun _ => trivial) rfl (by kernel_rfl) (fun _ _ _ _ h => h) hC rfl ?_; apply Exists.intro; refine ⟨?_, ?_⟩
                · rintro w ⟨r1, r2, r3, r4, r5, r6⟩; go_simp; try with_reducible rfl
                simp only [Act.put, List.setIfInBounds_toArray, List.set_cons_succ, List.set_cons_zero]
                refine Lim.stepR 23 (fun _ => trivial) rfl (by kernel_rfl) (fun _ _ _ _ h => h) hC rfl ?_; apply Exists.intro; refine ⟨?_, ?_⟩
                · rintro w ⟨r1, r2, r3, r4, r5, r6⟩; go_simp; try with_reducible rfl
                simp only [Act.put, List.setIfInBounds_toArray, List.set_cons_succ, List.set_cons_zero]
                refine Lim.stepR 24 (fun _ => trivial) rfl (by kernel_rfl) (fun _ _ _ _ h => h) hC rfl ?_; apply Exists.intro; refine ⟨?_, ?_⟩
                · rintro w ⟨r1, r2, r3, r4, r5, r6⟩; go_simp; try with_reducible rfl
                simp only [Act.put, List.setIfInBounds_toArray, List.set_cons_succ, List.set_cons_zero]
                refine Lim.stepR 25 (fun _ => trivial) rfl (by kernel_rfl) (fun _ _ _ _ h => h) hC rfl ?_; apply Exists.intro; refine ⟨?_, ?_⟩
                · rintro w ⟨r1, r2, r3, r4, r5, r6⟩; go_simp; try with_reducible rfl
                simp only [Act.put, List.setIfInBounds_toArray, List.set_cons_succ, List.set_cons_zero]
                refine Lim.stepR 26 (fun _ => trivial) rfl (by kernel_rfl) (fun _ _ _ _ h => h) hC rfl ?_; apply Exists.intro; refine ⟨?_, ?_⟩
                · rintro w ⟨r1, r2, r3, r4, r5, r6⟩; go_simp; try with_reducible rfl
                simp only [Act.put, List.setIfInBounds_toArray, List.set_cons_succ, List.set_cons_zero]
                refine Lim.stepR 27 (fun _ => trivial) rfl (by kernel_rfl) (fun _ _ _ _ h => h) hC rfl ?_; apply Exists.intro; refine ⟨?_, ?_⟩
                · rintro w ⟨r1, r2, r3, r4, r5, r6⟩; go_simp; try with_reducible rfl
                simp only [Act.put, List.setIfInBounds_toArray, List.set_cons_succ, List.set_cons_zero]
                refine Lim.stepR 28 (fun _ => trivial) rfl (by kernel_rfl) (fun _ _ _ _ h => h) hC rfl ?_; apply Exists.intro; refine ⟨?_, ?_⟩
                · rintro w ⟨r1, r2, r3, r4, r5, r6⟩; go_simp; try with_reducible rfl
                simp only [Act.put, List.setIfInBounds_toArray, List.set_cons_succ, List.set_cons_zero]
                refine Lim.stepR 29 (fun _ => trivial) rfl (by kernel_rfl) (fun _ _ _ _ h => h) hC rfl ?_; apply Exists.intro; refine ⟨?_, ?_⟩
                · rintro w ⟨r1, r2, r3, r4, r5, r6⟩; go_simp; try with_reducible rfl
                simp only [Act.put, List.setIfInBounds_toArray, List.set_cons_succ, List.set_cons_zero]
                refine Lim.stepR 30 (fun _ => trivial) rfl (by kernel_rfl) (fun _ _ _ _ h => h) hC rfl ?_; apply Exists.intro; refine ⟨?_, ?_⟩
                · rintro w ⟨r1, r2, r3, r4, r5, r6⟩; go_simp; try with_reducible rfl
                simp only [Act.put, List.setIfInBounds_toArray, List.set_cons_succ, List.set_cons_zero]
                refine Lim.stepR 31 (fun _ => trivial) rfl (by kernel_rfl) (fun _ _ _ _ h => h) hC rfl ?_; apply Exists.intro; refine ⟨?_, ?_⟩
                · rintro w ⟨r1, r2, r3, r4, r5, r6⟩; go_simp; try with_reducible rfl
                simp only [Act.put, List.setIfInBounds_toArray, List.set_cons_succ, List.set_cons_zero]
                refine Lim.stepR 32 (fun _ => trivial) rfl (by kernel_rfl) (fun _ _ _ _ h => h) hC rfl ?_; apply Exists.intro; refine ⟨?_, ?_⟩
                · rintro w ⟨r1, r2, r3, r4, r5, r6⟩; go_simp; try with_reducible rfl
                simp only [Act.put, List.setIfInBounds_toArray, List.set_cons_succ, List.set_cons_zero]
                refine Lim.stepR 33 (fun _ => trivial) rfl (by kernel_rfl) (fun _ _ _ _ h => h) hC rfl ?_; apply Exists.intro; refine ⟨?_, ?_⟩
                · rintro w ⟨r1, r2, r3, r4, r5, r6⟩; go_simp; try with_reducible rfl
                simp only [Act.put, List.setIfInBounds_toArray, List.set_cons_succ, List.set_cons_zero]
                refine Lim.stepR 34 (fun _ => trivial) rfl (by kernel_rfl) (fun _ _ _ _ h => h) hC rfl ?_; apply Exists.intro; refine ⟨?_, ?_⟩
                · rintro w ⟨r1, r2, r3, r4, r5, r6⟩; go_simp; try with_reducible rfl
                simp only [Act.put, List.setIfInBounds_toArray, List.set_cons_succ, List.set_cons_zero]
                refine Lim.stepR 35 (fun _ => trivial) rfl (by kernel_rfl) (fun _ _ _ _ h => h) hC rfl ?_; apply Exists.intro; refine ⟨?_, ?_⟩
                · rintro w ⟨r1, r2, r3, r4, r5, r6⟩; go_simp; try with_reducible rfl
                simp only [Act.put, List.setIfInBounds_toArray, List.set_cons_succ, List.set_cons_zero]
                refine Lim.stepR 36 (fun _ => trivial) rfl (by kernel_rfl) (fun _ _ _ _ h => h) hC rfl ?_; apply Exists.intro; refine ⟨?_, ?_⟩
                · rintro w ⟨r1, r2, r3, r4, r5, r6⟩; go_simp; try with_reducible rfl
                simp only [Act.put, List.setIfInBounds_toArray, List.set_cons_succ, List.set_cons_zero]
                refine Lim.stepR 37 (fun _ => trivial) rfl (by kernel_rfl) (fun _ _ _ _ h => h) hC rfl ?_; apply Exists.intro; refine ⟨?_, ?_⟩
                · rintro w ⟨r1, r2, r3, r4, r5, r6⟩; go_simp; try with_reducible rfl
                simp only [Act.put, List.setIfInBounds_toArray, List.set_cons_succ, List.set_cons_zero]
                refine Lim.stepR 38 (fun _ => trivial) rfl (by kernel_rfl) (fun _ _ _ _ h => h) hC rfl ?_; apply Exists.intro; refine ⟨?_, ?_⟩
                · rintro w ⟨r1, r2, r3, r4, r5, r6⟩; go_simp; try with_reducible rfl
                simp only [Act.put, List.setIfInBounds_toArray, List.set_cons_succ, List.set_cons_zero]
                refine Lim.stepR 39 (fun _ => trivial) rfl (by kernel_rfl) (fun _ _ _ _ h => h) hC rfl ?_; apply Exists.intro; refine ⟨?_, ?_⟩
                · rintro w ⟨r1, r2, r3, r4, r5, r6⟩; go_simp; try with_reducible rfl
                simp only [Act.put, List.setIfInBounds_toArray, List.set_cons_succ, List.set_cons_zero]
                refine Lim.stepR 40 (fun _ => trivial) rfl (by kernel_rfl) (fun _ _ _ _ h => h) hC rfl ?_; apply Exists.intro; refine ⟨?_, ?_⟩
                · rintro w ⟨r1, r2, r3, r4, r5, r6⟩; go_simp; try with_reducible rfl
                simp only [Act.put, List.setIfInBounds_toArray, List.set_cons_succ, List.set_cons_zero]
                refine Lim.stepR 41 (fun _ => trivial) rfl (by kernel_rfl) (fun _ _ _ _ h => h) hC rfl ?_; apply Exists.intro; refine ⟨?_, ?_⟩
                · rintro w ⟨r1, r2, r3, r4, r5, r6⟩; go_simp; try with_reducible rfl
                simp only [Act.put, List.setIfInBounds_toArray, List.set_cons_succ, List.set_cons_zero]
                refine Lim.stepD (by kernel_rfl) ?_
                clear hC
                go_wp2_with fail
                go_roundw
                case rel => exact ⟨j + 1, by omega, by go_num, Lib.hid hJ.out.drew⟩
                case measure => simp [intOf]; omega
              · have g11 : ((qv : Int) == (p : Int) + (m.wd : Int)) = false := by rw [beq_eq_false_iff_ne]; omega
                obtain ⟨rm, hrm⟩ : ∃ rm, rm = qv % m.wd := ⟨_, rfl⟩
                have e5 : (qv : Int).tmod (m.wd : Int) = (rm : Int) := by rw [hrm]; exact (Int.ofNat_tmod qv m.wd).symm
                by_cases hz : 0 < rm
                · have g16 : decide ((0 : Int) < (rm : Int)) = true := by simp; omega
                  have g17 : decide (0 < rm) = true := by simpa using hz
                  have gc0 := HCMP.out (by
                    rcases HQV.out with e | e
                    · rw [e]; exact nb_right (by omega) (by rw [← e, ← hrm]; exact hz)
                    · exact absurd e hd)
                  clear hz hrm
                  have hdn : ¬ ((qv : Int) = (p : Int) + (m.wd : Int)) := by omega
                  go_upto_region 19 with (fail)
                  refine Lim.regC' (fun W => W.cell? ⟨q3, 0, none⟩ = some (.int .i64 m.wd) ∧ W.cell? ⟨q3, 1, none⟩ = some (.slice (some ⟨ga, 0, none⟩) m.n gc) ∧ W.cell? ⟨gl, p, none⟩ = some (.int .i64 rp) ∧ W.cell? ⟨ga, p, none⟩ = some (.int .i64 o) ∧ W.cell? ⟨gl, qv, none⟩ = some (.int .i64 rq) ∧ W.cell? ⟨ga, qv, none⟩ = some (.int .i64 o')) [] #[false, false, false, false, false, false, false, false, false, false, false, false, false, false, false, false, false, false, false, false, false, false, false, false, false, false, false, false, false, false, false, false, false, false, false, false, false, false, false, false, false, false] (by kernel_rfl) rfl ?_
                  refine Lim.stepR 0 (fun _ => trivial) rfl (by kernel_rfl) (fun _ _ _ _ h => h) hC rfl ?_; apply Exists.intro; refine ⟨?_, ?_⟩
                  · rintro w ⟨r1, r2, r3, r4, r5, r6⟩; go_simp; try with_reducible rfl
                  simp only [Act.put, List.setIfInBounds_toArray, List.set_cons_succ, List.set_cons_zero]
                  refine Lim.stepR 1 (fun _ => trivial) rfl (by kernel_rfl) (fun _ _ _ _ h => h) hC rfl ?_; apply Exists.intro; refine ⟨?_, ?_⟩
                  · rintro w ⟨r1, r2, r3, r4, r5, r6⟩; go_simp; try with_reducible rfl
                  simp only [Act.put, List.setIfInBounds_toArray, List.set_cons_succ, List.set_cons_zero]
                  refine Lim.stepR 2 (fun _ => trivial) rfl (by kernel_rfl) (fun _ _ _ _ h => h) hC rfl ?_; apply Exists.intro; refine ⟨?_, ?_⟩
                  · rintro w ⟨r1, r2, r3, r4, r5, r6⟩; go_simp; try with_reducible rfl
                  simp only [Act.put, List.setIfInBounds_toArray, List.set_cons_succ, List.set_cons_zero]
                  refine Lim.stepR 3 (fun _ => trivial) rfl (by kernel_rfl) (fun _ _ _ _ h => h) hC rfl ?_; apply Exists.intro; refine ⟨?_, ?_⟩
                  · rintro w ⟨r1, r2, r3, r4, r5, r6⟩; go_simp; try with_reducible rfl
                  simp only [Act.put, List.setIfInBounds_toArray, List.set_cons_succ, List.set_cons_zero]
                  refine Lim.stepR 4 (fun _ => trivial) rfl (by kernel_rfl) (fun _ _ _ _ h => h) hC rfl ?_; apply Exists.intro; refine ⟨?_, ?_⟩
                  · rintro w ⟨r1, r2, r3, r4, r5, r6⟩; go_simp; try with_reducible rfl
                  simp only [Act.put, List.setIfInBounds_toArray, List.set_cons_succ, List.set_cons_zero]
                  refine Lim.stepR 5 (fun _ => trivial) rfl (by kernel_rfl) (fun _ _ _ _ h => h) hC rfl ?_; apply Exists.intro; refine ⟨?_, ?_⟩
                  · rintro w ⟨r1, r2, r3, r4, r5, r6⟩; go_simp; try with_reducible rfl
                  simp only [Act.put, List.setIfInBounds_toArray, List.set_cons_succ, List.set_cons_zero]
                  refine Lim.stepR 6 (fun _ => trivial) rfl (by kernel_rfl) (fun _ _ _ _ h => h) hC rfl ?_; apply Exists.intro; refine ⟨?_, ?_⟩
                  · rintro w ⟨r1, r2, r3, r4, r5, r6⟩; go_simp; try with_reducible rfl
                  simp only [Act.put, List.setIfInBounds_toArray, List.set_cons_succ, List.set_cons_zero]
                  refine Lim.stepR 7 (fun _ => trivial) rfl (by kernel_rfl) (fun _ _ _ _ h => h) hC rfl ?_; apply Exists.intro; refine ⟨?_, ?_⟩
                  · rintro w ⟨r1, r2, r3, r4, r5, r6⟩; go_simp; try with_reducible rfl
                  simp only [Act.put, List.setIfInBounds_toArray, List.set_cons_succ, List.set_cons_zero]
                  refine Lim.stepR 8 (fun _ => trivial) rfl (by kernel_rfl) (fun _ _ _ _ h => h) hC rfl ?_; apply Exists.intro; refine ⟨?_, ?_⟩
                  · rintro w ⟨r1, r2, r3, r4, r5, r6⟩; go_simp; try with_reducible rfl
                  simp only [Act.put, List.setIfInBounds_toArray, List.set_cons_succ, List.set_cons_zero]
                  refine Lim.stepR 9 (fun _ => trivial) rfl (by kernel_rfl) (fun _ _ _ _ h => h) hC rfl ?_; apply Exists.intro; refine ⟨?_, ?_⟩
                  · rintro w ⟨r1, r2, r3, r4, r5, r6⟩; go_simp; try with_reducible rfl
                  simp only [Act.put, List.setIfInBounds_toArray, List.set_cons_succ, List.set_cons_zero]
                  refine Lim.stepR 10 (fun _ => trivial) rfl (by kernel_rfl) (fun _ _ _ _ h => h) hC rfl ?_; apply Exists.intro; refine ⟨?_, ?_⟩
                  · rintro w ⟨r1, r2, r3, r4, r5, r6⟩; go_simp; try with_reducible rfl
                  simp only [Act.put, List.setIfInBounds_toArray, List.set_cons_succ, List.set_cons_zero]
                  refine Lim.stepR 11 (fun _ => trivial) rfl (by kernel_rfl) (fun _ _ _ _ h => h) hC rfl ?_; apply Exists.intro; refine ⟨?_, ?_⟩
                  · rintro w ⟨r1, r2, r3, r4, r5, r6⟩; go_simp; try with_reducible rfl
                  simp only [Act.put, List.setIfInBounds_toArray, List.set_cons_succ, List.set_cons_zero]
                  refine Lim.stepR 12 (fun _ => trivial) rfl (by kernel_rfl) (fun _ _ _ _ h => h) hC rfl ?_; apply Exists.intro; refine ⟨?_, ?_⟩
                  · rintro w ⟨r1, r2, r3, r4, r5, r6⟩; go_simp; try with_reducible rfl
                  simp only [Act.put, List.setIfInBounds_toArray, List.set_cons_succ, List.set_cons_zero]
                  refine Lim.stepR 13 (fun _ => trivial) rfl (by kernel_rfl) (fun _ _ _ _ h => h) hC rfl ?_; apply Exists.intro; refine ⟨?_, ?_⟩
                  · rintro w ⟨r1, r2, r3, r4, r5, r6⟩; go_simp; try with_reducible rfl
                  simp only [Act.put, List.setIfInBounds_toArray, List.set_cons_succ, List.set_cons_zero]
                  refine Lim.stepR 14 (fun _ => trivial) rfl (by kernel_rfl) (fun _ _ _ _ h => h) hC rfl ?_; apply Exists.intro; refine ⟨?_, ?_⟩
                  · rintro w ⟨r1, r2, r3, r4, r5, r6⟩; go_simp; try with_reducible rfl
                  simp only [Act.put, List.setIfInBounds_toArray, List.set_cons_succ, List.set_cons_zero]
                  refine Lim.stepR 15 (fun _ => trivial) rfl (by kernel_rfl) (fun _ _ _ _ h => h) hC rfl ?_; apply Exists.intro; refine ⟨?_, ?_⟩
                  · rintro w ⟨r1, r2, r3, r4, r5, r6⟩; go_simp; try with_reducible rfl
                  simp only [Act.put, List.setIfInBounds_toArray, List.set_cons_succ, List.set_cons_zero]
                  refine Lim.stepR 16 (fun _ => trivial) rfl (by kernel_rfl) (fun _ _ _ _ h => h) hC rfl ?_; apply Exists.intro; refine ⟨?_, ?_⟩
                  · rintro w ⟨r1, r2, r3, r4, r5, r6⟩; go_simp; try with_reducible rfl
                  simp only [Act.put, List.setIfInBounds_toArray, List.set_cons_succ, List.set_cons_zero]
                  refine Lim.stepR 17 (fun _ => trivial) rfl (by kernel_rfl) (fun _ _ _ _ h => h) hC rfl ?_; apply Exists.intro; refine ⟨?_, ?_⟩
                  · rintro w ⟨r1, r2, r3, r4, r5, r6⟩; go_simp; try with_reducible rfl
                  simp only [Act.put, List.setIfInBounds_toArray, List.set_cons_succ, List.set_cons_zero]
                  refine Lim.stepR 18 (fun _ => trivial) rfl (by kernel_rfl) (fun _ _ _ _ h => h) hC rfl ?_; apply Exists.intro; refine ⟨?_, ?_⟩
                  · rintro w ⟨r1, r2, r3, r4, r5, r6⟩; go_simp; try with_reducible rfl
                  simp only [Act.put, List.setIfInBounds_toArray, List.set_cons_succ, List.set_cons_zero]
                  refine Lim.stepR 19 (fun _ => trivial) rfl (by kernel_rfl) (fun _ _ _ _ h => h) hC rfl ?_; apply Exists.intro; refine ⟨?_, ?_⟩
                  · rintro w ⟨r1, r2, r3, r4, r5, r6⟩; go_simp; try with_reducible rfl
                  simp only [Act.put, List.setIfInBounds_toArray, List.set_cons_succ, List.set_cons_zero]
                  refine Lim.stepR 20 (fun _ => trivial) rfl (by kernel_rfl) (fun _ _ _ _ h => h) hC rfl ?_; apply Exists.intro; refine ⟨?_, ?_⟩
                  · rintro w ⟨r1, r2, r3, r4, r5, r6⟩; go_simp; try with_reducible rfl
                  simp only [Act.put, List.setIfInBounds_toArray, List.set_cons_succ, List.set_cons_zero]
                  refine Lim.stepR 21 (fun _ => trivial) rfl (by kernel_rfl) (fun _ _ _ _ h => h) hC rfl ?_; apply Exists.intro; refine ⟨?_, ?_⟩
                  · rintro w ⟨r1, r2, r3, r4, r5, r6⟩; go_simp; try with_reducible rfl
                  simp only [Act.put, List.setIfInBounds_toArray, List.set_cons_succ, List.set_cons_zero]
                  refine Lim.stepR 22 (fun _ => trivial) rfl (by kernel_rfl) (fun _ _ _ _ h => h) hC rfl ?_; apply Exists.intro; refine ⟨?_, ?_⟩
                  · rintro w ⟨r1, r2, r3, r4, r5, r6⟩; go_simp; try with_reducible rfl
                  simp only [Act.put, List.setIfInBounds_toArray, List.set_cons_succ, List.set_cons_zero]
                  refine Lim.stepR 23 (fun _ => trivial) rfl (by kernel_rfl) (fun _ _ _ _ h => h) hC rfl ?_; apply Exists.intro; refine ⟨?_, ?_⟩
                  · rintro w ⟨r1, r2, r3, r4, r5, r6⟩; go_simp; try with_reducible rfl
                  simp only [Act.put, List.setIfInBounds_toArray, List.set_cons_succ, List.set_cons_zero]
                  refine Lim.stepR 24 (fun _ => trivial) rfl (by kernel_rfl) (fun _ _ _ _ h => h) hC rfl ?_; apply Exists.intro; refine ⟨?_, ?_⟩
                  · rintro w ⟨r1, r2, r3, r4, r5, r6⟩; go_simp; try with_reducible rfl
                  simp only [Act.put, List.setIfInBounds_toArray, List.set_cons_succ, List.set_cons_zero]
                  refine Lim.stepR 25 (fun _ => trivial) rfl (by kernel_rfl) (fun _ _ _ _ h => h) hC rfl ?_; apply Exists.intro; refine ⟨?_, ?_⟩
                  · rintro w ⟨r1, r2, r3, r4, r5, r6⟩; go_simp; try with_reducible rfl
                  simp only [Act.put, List.setIfInBounds_toArray, List.set_cons_succ, List.set_cons_zero]
                  refine Lim.stepR 26 (fun _ => trivial) rfl (by kernel_rfl) (fun _ _ _ _ h => h) hC rfl ?_; apply Exists.intro; refine ⟨?_, ?_⟩
                  · rintro w ⟨r1, r2, r3, r4, r5, r6⟩; go_simp; try with_reducible rfl
                  simp only [Act.put, List.setIfInBounds_toArray, List.set_cons_succ, List.set_cons_zero]
                  refine Lim.stepR 27 (fun _ => trivial) rfl (by kernel_rfl) (fun _ _ _ _ h => h) hC rfl ?_; apply Exists.intro; refine ⟨?_, ?_⟩
                  · rintro w ⟨r1, r2, r3, r4, r5, r6⟩; go_simp; try with_reducible rfl
                  simp only [Act.put, List.setIfInBounds_toArray, List.set_cons_succ, List.set_cons_zero]
                  refine Lim.stepR 28 (fun _ => trivial) rfl (by kernel_rfl) (fun _ _ _ _ h => h) hC rfl ?_; apply Exists.intro; refine ⟨?_, ?_⟩
                  · rintro w ⟨r1, r2, r3, r4, r5, r6⟩; go_simp; try with_reducible rfl
                  simp only [Act.put, List.setIfInBounds_toArray, List.set_cons_succ, List.set_cons_zero]
                  refine Lim.stepR 29 (fun _ => trivial) rfl (by kernel_rfl) (fun _ _ _ _ h => h) hC rfl ?_; apply Exists.intro; refine ⟨?_, ?_⟩
                  · rintro w ⟨r1, r2, r3, r4, r5, r6⟩; go_simp; try with_reducible rfl
                  simp only [Act.put, List.setIfInBounds_toArray, List.set_cons_succ, List.set_cons_zero]
                  refine Lim.stepR 30 (fun _ => trivial) rfl (by kernel_rfl) (fun _ _ _ _ h => h) hC rfl ?_; apply Exists.intro; refine ⟨?_, ?_⟩
                  · rintro w ⟨r1, r2, r3, r4, r5, r6⟩; go_simp; try with_reducible rfl
                  simp only [Act.put, List.setIfInBounds_toArray, List.set_cons_succ, List.set_cons_zero]
                  refine Lim.stepR 31 (fun _ => trivial) rfl (by kernel_rfl) (fun _ _ _ _ h => h) hC rfl ?_; apply Exists.intro; refine ⟨?_, ?_⟩
                  · rintro w ⟨r1, r2, r3, r4, r5, r6⟩; go_simp; try with_reducible rfl
                  simp only [Act.put, List.setIfInBounds_toArray, List.set_cons_succ, List.set_cons_zero]
                  refine Lim.stepR 32 (fun _ => trivial) rfl (by kernel_rfl) (fun _ _ _ _ h => h) hC rfl ?_; apply Exists.intro; refine ⟨?_, ?_⟩
                  · rintro w ⟨r1, r2, r3, r4, r5, r6⟩; go_simp; try with_reducible rfl
                  simp only [Act.put, List.setIfInBounds_toArray, List.set_cons_succ, List.set_cons_zero]
                  refine Lim.stepR 33 (fun _ => trivial) rfl (by kernel_rfl) (fun _ _ _ _ h => h) hC rfl ?_; apply Exists.intro; refine ⟨?_, ?_⟩
                  · rintro w ⟨r1, r2, r3, r4, r5, r6⟩; go_simp; try with_reducible rfl
                  simp only [Act.put, List.setIfInBounds_toArray, List.set_cons_succ, List.set_cons_zero]
                  refine Lim.stepR 34 (fun _ => trivial) rfl (by kernel_rfl) (fun _ _ _ _ h => h) hC rfl ?_; apply Exists.intro; refine ⟨?_, ?_⟩
                  · rintro w ⟨r1, r2, r3, r4, r5, r6⟩; go_simp; try with_reducible rfl
                  simp only [Act.put, List.setIfInBounds_toArray, List.set_cons_succ, List.set_cons_zero]
                  refine Lim.stepR 35 (fun _ => trivial) rfl (by kernel_rfl) (fun _ _ _ _ h => h) hC rfl ?_; apply Exists.intro; refine ⟨?_, ?_⟩
                  · rintro w ⟨r1, r2, r3, r4, r5, r6⟩; go_simp; try with_reducible rfl
                  simp only [Act.put, List.setIfInBounds_toArray, List.set_cons_succ, List.set_cons_zero]
                  refine Lim.stepR 36 (fun _ => trivial) rfl (by kernel_rfl) (fun _ _ _ _ h => h) hC rfl ?_; apply Exists.intro; refine ⟨?_, ?_⟩
                  · rintro w ⟨r1, r2, r3, r4, r5, r6⟩; go_simp; try with_reducible rfl
                  simp only [Act.put, List.setIfInBounds_toArray, List.set_cons_succ, List.set_cons_zero]
                  refine Lim.stepR 37 (fun _ => trivial) rfl (by kernel_rfl) (fun _ _ _ _ h => h) hC rfl ?_; apply Exists.intro; refine ⟨?_, ?_⟩
                  · rintro w ⟨r1, r2, r3, r4, r5, r6⟩; go_simp; try with_reducible rfl
                  simp only [Act.put, List.setIfInBounds_toArray, List.set_cons_succ, List.set_cons_zero]
                  refine Lim.stepR 38 (fun _ => trivial) rfl (by kernel_rfl) (fun _ _ _ _ h => h) hC rfl ?_; apply Exists.intro; refine ⟨?_, ?_⟩
                  · rintro w ⟨r1, r2, r3, r4, r5, r6⟩; go_simp; try with_reducible rfl
                  simp only [Act.put, List.setIfInBounds_toArray, List.set_cons_succ, List.set_cons_zero]
                  refine Lim.stepR 39 (fun _ => trivial) rfl (by kernel_rfl) (fun _ _ _ _ h => h) hC rfl ?_; apply Exists.intro; refine ⟨?_, ?_⟩
                  · rintro w ⟨r1, r2, r3, r4, r5, r6⟩; go_simp; try with_reducible rfl
                  simp only [Act.put, List.setIfInBounds_toArray, List.set_cons_succ, List.set_cons_zero]
                  refine Lim.stepR 40 (fun _ => trivial) rfl (by kernel_rfl) (fun _ _ _ _ h => h) hC rfl ?_; apply Exists.intro; refine ⟨?_, ?_⟩
                  · rintro w ⟨r1, r2, r3, r4, r5, r6⟩; go_simp; try with_reducible rfl
                  simp only [Act.put, List.setIfInBounds_toArray, List.set_cons_succ, List.set_cons_zero]
                  refine Lim.stepR 41 (fun _ => trivial) rfl (by kernel_rfl) (fun _ _ _ _ h => h) hC rfl ?_; apply Exists.intro; refine ⟨?_, ?_⟩
                  · rintro w ⟨r1, r2, r3, r4, r5, r6⟩; go_simp; try with_reducible rfl
                  simp only [Act.put, List.setIfInBounds_toArray, List.set_cons_succ, List.set_cons_zero]
                  refine Lim.stepD (by kernel_rfl) ?_
                  clear hC
                  go_wp2_with fail
                  go_roundw
                  case rel => exact ⟨j + 1, by omega, by go_num, Lib.hid hJ.out.drew⟩
                  case measure => simp [intOf]; omega
                · have g16 : decide ((0 : Int) < (rm : Int)) = false := by simp; omega
                  have g17 : decide (0 < rm) = false := by simpa using hz
                  clear hz hrm
                  have hdn : ¬ ((qv : Int) = (p : Int) + (m.wd : Int)) := by omega
                  go_upto_region 19 with (fail)
                  refine Lim.regC' (fun W => W.cell? ⟨q3, 0, none⟩ = some (.int .i64 m.wd) ∧ W.cell? ⟨q3, 1, none⟩ = some (.slice (some ⟨ga, 0, none⟩) m.n gc) ∧ W.cell? ⟨gl, p, none⟩ = some (.int .i64 rp) ∧ W.cell? ⟨ga, p, none⟩ = some (.int .i64 o) ∧ W.cell? ⟨gl, qv, none⟩ = some (.int .i64 rq) ∧ W.cell? ⟨ga, qv, none⟩ = some (.int .i64 o')) [] #[false, false, false, false, false, false, false, false, false, false, false, false, false, false, false, false, false, false, false, false, false, false, false, false, false, false, false, false, false, false, false, false, false, false, false, false, false, false, false, false, false, false] (by kernel_rfl) rfl ?_
                  refine Lim.stepR 0 (fun _ => trivial) rfl (by kernel_rfl) (fun _ _ _ _ h => h) hC rfl ?_; apply Exists.intro; refine ⟨?_, ?_⟩
                  · rintro w ⟨r1, r2, r3, r4, r5, r6⟩; go_simp; try with_reducible rfl
                  simp only [Act.put, List.setIfInBounds_toArray, List.set_cons_succ, List.set_cons_zero]
                  refine Lim.stepR 1 (fun _ => trivial) rfl (by kernel_rfl) (fun _ _ _ _ h => h) hC rfl ?_; apply Exists.intro; refine ⟨?_, ?_⟩
                  · rintro w ⟨r1, r2, r3, r4, r5, r6⟩; go_simp; try with_reducible rfl
                  simp only [Act.put, List.setIfInBounds_toArray, List.set_cons_succ, List.set_cons_zero]
                  refine Lim.stepR 2 (fun _ => trivial) rfl (by kernel_rfl) (fun _ _ _ _ h => h) hC rfl ?_; apply Exists.intro; refine ⟨?_, ?_⟩
                  · rintro w ⟨r1, r2, r3, r4, r5, r6⟩; go_simp; try with_reducible rfl
                  simp only [Act.put, List.setIfInBounds_toArray, List.set_cons_succ, List.set_cons_zero]
                  refine Lim.stepR 3 (fun _ => trivial) rfl (by kernel_rfl) (fun _ _ _ _ h => h) hC rfl ?_; apply Exists.intro; refine ⟨?_, ?_⟩
                  · rintro w ⟨r1, r2, r3, r4, r5, r6⟩; go_simp; try with_reducible rfl
                  simp only [Act.put, List.setIfInBounds_toArray, List.set_cons_succ, List.set_cons_zero]
                  refine Lim.stepR 4 (fun _ => trivial) rfl (by kernel_rfl) (fun _ _ _ _ h => h) hC rfl ?_; apply Exists.intro; refine ⟨?_, ?_⟩
                  · rintro w ⟨r1, r2, r3, r4, r5, r6⟩; go_simp; try with_reducible rfl
                  simp only [Act.put, List.setIfInBounds_toArray, List.set_cons_succ, List.set_cons_zero]
                  refine Lim.stepR 5 (fun _ => trivial) rfl (by kernel_rfl) (fun _ _ _ _ h => h) hC rfl ?_; apply Exists.intro; refine ⟨?_, ?_⟩
                  · rintro w ⟨r1, r2, r3, r4, r5, r6⟩; go_simp; try with_reducible rfl
                  simp only [Act.put, List.setIfInBounds_toArray, List.set_cons_succ, List.set_cons_zero]
                  refine Lim.stepR 6 (fun _ => trivial) rfl (by kernel_rfl) (fun _ _ _ _ h => h) hC rfl ?_; apply Exists.intro; refine ⟨?_, ?_⟩
                  · rintro w ⟨r1, r2, r3, r4, r5, r6⟩; go_simp; try with_reducible rfl
                  simp only [Act.put, List.setIfInBounds_toArray, List.set_cons_succ, List.set_cons_zero]
                  refine Lim.stepR 7 (fun _ => trivial) rfl (by kernel_rfl) (fun _ _ _ _ h => h) hC rfl ?_; apply Exists.intro; refine ⟨?_, ?_⟩
                  · rintro w ⟨r1, r2, r3, r4, r5, r6⟩; go_simp; try with_reducible rfl
                  simp only [Act.put, List.setIfInBounds_toArray, List.set_cons_succ, List.set_cons_zero]
                  refine Lim.stepR 8 (fun _ => trivial) rfl (by kernel_rfl) (fun _ _ _ _ h => h) hC rfl ?_; apply Exists.intro; refine ⟨?_, ?_⟩
                  · rintro w ⟨r1, r2, r3, r4, r5, r6⟩; go_simp; try with_reducible rfl
                  simp only [Act.put, List.setIfInBounds_toArray, List.set_cons_succ, List.set_cons_zero]
                  refine Lim.stepR 9 (fun _ => trivial) rfl (by kernel_rfl) (fun _ _ _ _ h => h) hC rfl ?_; apply Exists.intro; refine ⟨?_, ?_⟩
                  · rintro w ⟨r1, r2, r3, r4, r5, r6⟩; go_simp; try with_reducible rfl
                  simp only [Act.put, List.setIfInBounds_toArray, List.set_cons_succ, List.set_cons_zero]
                  refine Lim.stepR 10 (fun _ => trivial) rfl (by kernel_rfl) (fun _ _ _ _ h => h) hC rfl ?_; apply Exists.intro; refine ⟨?_, ?_⟩
                  · rintro w ⟨r1, r2, r3, r4, r5, r6⟩; go_simp; try with_reducible rfl
                  simp only [Act.put, List.setIfInBounds_toArray, List.set_cons_succ, List.set_cons_zero]
                  refine Lim.stepR 11 (fun _ => trivial) rfl (by kernel_rfl) (fun _ _ _ _ h => h) hC rfl ?_; apply Exists.intro; refine ⟨?_, ?_⟩
                  · rintro w ⟨r1, r2, r3, r4, r5, r6⟩; go_simp; try with_reducible rfl
                  simp only [Act.put, List.setIfInBounds_toArray, List.set_cons_succ, List.set_cons_zero]
                  refine Lim.stepR 12 (fun _ => trivial) rfl (by kernel_rfl) (fun _ _ _ _ h => h) hC rfl ?_; apply Exists.intro; refine ⟨?_, ?_⟩
                  · rintro w ⟨r1, r2, r3, r4, r5, r6⟩; go_simp; try with_reducible rfl
                  simp only [Act.put, List.setIfInBounds_toArray, List.set_cons_succ, List.set_cons_zero]
                  refine Lim.stepR 13 (fun _ => trivial) rfl (by kernel_rfl) (fun _ _ _ _ h => h) hC rfl ?_; apply Exists.intro; refine ⟨?_, ?_⟩
                  · rintro w ⟨r1, r2, r3, r4, r5, r6⟩; go_simp; try with_reducible rfl
                  simp only [Act.put, List.setIfInBounds_toArray, List.set_cons_succ, List.set_cons_zero]
                  refine Lim.stepR 14 (fun _ => trivial) rfl (by kernel_rfl) (fun _ _ _ _ h => h) hC rfl ?_; apply Exists.intro; refine ⟨?_, ?_⟩
                  · rintro w ⟨r1, r2, r3, r4, r5, r6⟩; go_simp; try with_reducible rfl
                  simp only [Act.put, List.setIfInBounds_toArray, List.set_cons_succ, List.set_cons_zero]
                  refine Lim.stepR 15 (fun _ => trivial) rfl (by kernel_rfl) (fun _ _ _ _ h => h) hC rfl ?_; apply Exists.intro; refine ⟨?_, ?_⟩
                  · rintro w ⟨r1, r2, r3, r4, r5, r6⟩; go_simp; try with_reducible rfl
                  simp only [Act.put, List.setIfInBounds_toArray, List.set_cons_succ, List.set_cons_zero]
                  refine Lim.stepR 16 (fun _ => trivial) rfl (by kernel_rfl) (fun _ _ _ _ h => h) hC rfl ?_; apply Exists.intro; refine ⟨?_, ?_⟩
                  · rintro w ⟨r1, r2, r3, r4, r5, r6⟩; go_simp; try with_reducible rfl
                  simp only [Act.put, List.setIfInBounds_toArray, List.set_cons_succ, List.set_cons_zero]
                  refine Lim.stepR 17 (fun _ => trivial) rfl (by kernel_rfl) (fun _ _ _ _ h => h) hC rfl ?_; apply Exists.intro; refine ⟨?_, ?_⟩
                  · rintro w ⟨r1, r2, r3, r4, r5, r6⟩; go_simp; try with_reducible rfl
                  simp only [Act.put, List.setIfInBounds_toArray, List.set_cons_succ, List.set_cons_zero]
                  refine Lim.stepR 18 (fun _ => trivial) rfl (by kernel_rfl) (fun _ _ _ _ h => h) hC rfl ?_; apply Exists.intro; refine ⟨?_, ?_⟩
                  · rintro w ⟨r1, r2, r3, r4, r5, r6⟩; go_simp; try with_reducible rfl
                  simp only [Act.put, List.setIfInBounds_toArray, List.set_cons_succ, List.set_cons_zero]
                  refine Lim.stepR 19 (fun _ => trivial) rfl (by kernel_rfl) (fun _ _ _ _ h => h) hC rfl ?_; apply Exists.intro; refine ⟨?_, ?_⟩
                  · rintro w ⟨r1, r2, r3, r4, r5, r6⟩; go_simp; try with_reducible rfl
                  simp only [Act.put, List.setIfInBounds_toArray, List.set_cons_succ, List.set_cons_zero]
                  refine Lim.stepS 20 (fun _ => trivial) rfl (by kernel_rfl) (fun _ _ _ _ h => h) hC rfl ?_
                  simp only [Act.put, List.setIfInBounds_toArray, List.set_cons_succ, List.set_cons_zero]
                  refine Lim.stepS 21 (fun _ => trivial) rfl (by kernel_rfl) (fun _ _ _ _ h => h) hC rfl ?_
                  simp only [Act.put, List.setIfInBounds_toArray, List.set_cons_succ, List.set_cons_zero]
                  refine Lim.stepS 22 (fun _ => trivial) rfl (by kernel_rfl) (fun _ _ _ _ h => h) hC rfl ?_
                  simp only [Act.put, List.setIfInBounds_toArray, List.set_cons_succ, List.set_cons_zero]
                  refine Lim.stepS 23 (fun _ => trivial) rfl (by kernel_rfl) (fun _ _ _ _ h => h) hC rfl ?_
                  simp only [Act.put, List.setIfInBounds_toArray, List.set_cons_succ, List.set_cons_zero]
                  refine Lim.stepS 24 (fun _ => trivial) rfl (by kernel_rfl) (fun _ _ _ _ h => h) hC rfl ?_
                  simp only [Act.put, List.setIfInBounds_toArray, List.set_cons_succ, List.set_cons_zero]
                  refine Lim.stepS 25 (fun _ => trivial) rfl (by kernel_rfl) (fun _ _ _ _ h => h) hC rfl ?_
                  simp only [Act.put, List.setIfInBounds_toArray, List.set_cons_succ, List.set_cons_zero]
                  refine Lim.stepS 26 (fun _ => trivial) rfl (by kernel_rfl) (fun _ _ _ _ h => h) hC rfl ?_
                  simp only [Act.put, List.setIfInBounds_toArray, List.set_cons_succ, List.set_cons_zero]
                  refine Lim.stepS 27 (fun _ => trivial) rfl (by kernel_rfl) (fun _ _ _ _ h => h) hC rfl ?_
                  simp only [Act.put, List.setIfInBounds_toArray, List.set_cons_succ, List.set_cons_zero]
                  refine Lim.stepS 28 (fun _ => trivial) rfl (by kernel_rfl) (fun _ _ _ _ h => h) hC rfl ?_
                  simp only [Act.put, List.setIfInBounds_toArray, List.set_cons_succ, List.set_cons_zero]
                  refine Lim.stepS 29 (fun _ => trivial) rfl (by kernel_rfl) (fun _ _ _ _ h => h) hC rfl ?_
                  simp only [Act.put, List.setIfInBounds_toArray, List.set_cons_succ, List.set_cons_zero]
                  refine Lim.stepS 30 (fun _ => trivial) rfl (by kernel_rfl) (fun _ _ _ _ h => h) hC rfl ?_
                  simp only [Act.put, List.setIfInBounds_toArray, List.set_cons_succ, List.set_cons_zero]
                  refine Lim.stepS 31 (fun _ => trivial) rfl (by kernel_rfl) (fun _ _ _ _ h => h) hC rfl ?_
                  simp only [Act.put, List.setIfInBounds_toArray, List.set_cons_succ, List.set_cons_zero]
                  refine Lim.stepS 32 (fun _ => trivial) rfl (by kernel_rfl) (fun _ _ _ _ h => h) hC rfl ?_
                  simp only [Act.put, List.setIfInBounds_toArray, List.set_cons_succ, List.set_cons_zero]
                  refine Lim.stepS 33 (fun _ => trivial) rfl (by kernel_rfl) (fun _ _ _ _ h => h) hC rfl ?_
                  simp only [Act.put, List.setIfInBounds_toArray, List.set_cons_succ, List.set_cons_zero]
                  refine Lim.stepS 34 (fun _ => trivial) rfl (by kernel_rfl) (fun _ _ _ _ h => h) hC rfl ?_
                  simp only [Act.put, List.setIfInBounds_toArray, List.set_cons_succ, List.set_cons_zero]
                  refine Lim.stepS 35 (fun _ => trivial) rfl (by kernel_rfl) (fun _ _ _ _ h => h) hC rfl ?_
                  simp only [Act.put, List.setIfInBounds_toArray, List.set_cons_succ, List.set_cons_zero]
                  refine Lim.stepS 36 (fun _ => trivial) rfl (by kernel_rfl) (fun _ _ _ _ h => h) hC rfl ?_
                  simp only [Act.put, List.setIfInBounds_toArray, List.set_cons_succ, List.set_cons_zero]
                  refine Lim.stepS 37 (fun _ => trivial) rfl (by kernel_rfl) (fun _ _ _ _ h => h) hC rfl ?_
                  simp only [Act.put, List.setIfInBounds_toArray, List.set_cons_succ, List.set_cons_zero]
                  refine Lim.stepS 38 (fun _ => trivial) rfl (by kernel_rfl) (fun _ _ _ _ h => h) hC rfl ?_
                  simp only [Act.put, List.setIfInBounds_toArray, List.set_cons_succ, List.set_cons_zero]
                  refine Lim.stepS 39 (fun _ => trivial) rfl (by kernel_rfl) (fun _ _ _ _ h => h) hC rfl ?_
                  simp only [Act.put, List.setIfInBounds_toArray, List.set_cons_succ, List.set_cons_zero]
                  refine Lim.stepS 40 (fun _ => trivial) rfl (by kernel_rfl) (fun _ _ _ _ h => h) hC rfl ?_
                  simp only [Act.put, List.setIfInBounds_toArray, List.set_cons_succ, List.set_cons_zero]
                  refine Lim.stepR 41 (fun _ => trivial) rfl (by kernel_rfl) (fun _ _ _ _ h => h) hC rfl ?_; apply Exists.intro; refine ⟨?_, ?_⟩
                  · rintro w ⟨r1, r2, r3, r4, r5, r6⟩; go_simp; try with_reducible rfl
                  simp only [Act.put, List.setIfInBounds_toArray, List.set_cons_succ, List.set_cons_zero]
                  refine Lim.stepD (by kernel_rfl) ?_
                  clear hC
                  go_wp2_with fail
                  go_roundw
                  case rel => exact ⟨j + 1, by omega, by go_num, Lib.hid hJ.out.drew⟩
                  case measure => simp [intOf]; omega
            · have g4 : decide (qv < m.n) = false := by simpa using hq
              have hC : (fun W => W.cell? ⟨q3, 0, none⟩ = some (.int .i64 m.wd) ∧ W.cell? ⟨q3, 1, none⟩ = some (.slice (some ⟨ga, 0, none⟩) m.n gc)) wr.drew := ⟨k0, k1⟩
              clear hq
              go_upto_region 19 with (fail)
              refine Lim.regC' (fun W => W.cell? ⟨q3, 0, none⟩ = some (.int .i64 m.wd) ∧ W.cell? ⟨q3, 1, none⟩ = some (.slice (some ⟨ga, 0, none⟩) m.n gc)) [] #[false, false, false, false, false, false, false, false, false, false, false, false, false, false, false, false, false, false, false, false, false, false, false, false, false, false, false, false, false, false, false, false, false, false, false, false, false, false, false, false, false, false] (by kernel_rfl) rfl ?_
              refine Lim.stepR 0 (fun _ => trivial) rfl (by kernel_rfl) (fun _ _ _ _ h => h) hC rfl ?_; apply Exists.intro; refine ⟨?_, ?_⟩
              · rintro w ⟨r1, r2⟩; go_simp; try with_reducible rfl
              simp only [Act.put, List.setIfInBounds_toArray, List.set_cons_succ, List.set_cons_zero]
              refine Lim.stepR 1 (fun _ => trivial) rfl (by kernel_rfl) (fun _ _ _ _ h => h) hC rfl ?_; apply Exists.intro; refine ⟨?_, ?_⟩
              · rintro w ⟨r1, r2⟩; go_simp; try with_reducible rfl
              simp only [Act.put, List.setIfInBounds_toArray, List.set_cons_succ, List.set_cons_zero]
              refine Lim.stepR 2 (fun _ => trivial) rfl (by kernel_rfl) (fun _ _ _ _ h => h) hC rfl ?_; apply Exists.intro; refine ⟨?_, ?_⟩
              · rintro w ⟨r1, r2⟩; go_simp; try with_reducible rfl
              simp only [Act.put, List.setIfInBounds_toArray, List.set_cons_succ, List.set_cons_zero]
              refine Lim.stepR 3 (fun _ => trivial) rfl (by kernel_rfl) (fun _ _ _ _ h => h) hC rfl ?_; apply Exists.intro; refine ⟨?_, ?_⟩
              · rintro w ⟨r1, r2⟩; go_simp; try with_reducible rfl
              simp only [Act.put, List.setIfInBounds_toArray, List.set_cons_succ, List.set_cons_zero]
              refine Lim.stepR 4 (fun _ => trivial) rfl (by kernel_rfl) (fun _ _ _ _ h => h) hC rfl ?_; apply Exists.intro; refine ⟨?_, ?_⟩
              · rintro w ⟨r1, r2⟩; go_simp; try with_reducible rfl
              simp only [Act.put, List.setIfInBounds_toArray, List.set_cons_succ, List.set_cons_zero]
              refine Lim.stepS 5 (fun _ => trivial) rfl (by kernel_rfl) (fun _ _ _ _ h => h) hC rfl ?_
              simp only [Act.put, List.setIfInBounds_toArray, List.set_cons_succ, List.set_cons_zero]
              refine Lim.stepS 6 (fun _ => trivial) rfl (by kernel_rfl) (fun _ _ _ _ h => h) hC rfl ?_
              simp only [Act.put, List.setIfInBounds_toArray, List.set_cons_succ, List.set_cons_zero]
              refine Lim.stepS 7 (fun _ => trivial) rfl (by kernel_rfl) (fun _ _ _ _ h => h) hC rfl ?_
              simp only [Act.put, List.setIfInBounds_toArray, List.set_cons_succ, List.set_cons_zero]
              refine Lim.stepS 8 (fun _ => trivial) rfl (by kernel_rfl) (fun _ _ _ _ h => h) hC rfl ?_
              simp only [Act.put, List.setIfInBounds_toArray, List.set_cons_succ, List.set_cons_zero]
              refine Lim.stepS 9 (fun _ => trivial) rfl (by kernel_rfl) (fun _ _ _ _ h => h) hC rfl ?_
              simp only [Act.put, List.setIfInBounds_toArray, List.set_cons_succ, List.set_cons_zero]
              refine Lim.stepS 10 (fun _ => trivial) rfl (by kernel_rfl) (fun _ _ _ _ h => h) hC rfl ?_
              simp only [Act.put, List.setIfInBounds_toArray, List.set_cons_succ, List.set_cons_zero]
              refine Lim.stepS 11 (fun _ => trivial) rfl (by kernel_rfl) (fun _ _ _ _ h => h) hC rfl ?_
              simp only [Act.put, List.setIfInBounds_toArray, List.set_cons_succ, List.set_cons_zero]
              refine Lim.stepS 12 (fun _ => trivial) rfl (by kernel_rfl) (fun _ _ _ _ h => h) hC rfl ?_
              simp only [Act.put, List.setIfInBounds_toArray, List.set_cons_succ, List.set_cons_zero]
              refine Lim.stepS 13 (fun _ => trivial) rfl (by kernel_rfl) (fun _ _ _ _ h => h) hC rfl ?_
              simp only [Act.put, List.setIfInBounds_toArray, List.set_cons_succ, List.set_cons_zero]
              refine Lim.stepS 14 (fun _ => trivial) rfl (by kernel_rfl) (fun _ _ _ _ h => h) hC rfl ?_
              simp only [Act.put, List.setIfInBounds_toArray, List.set_cons_succ, List.set_cons_zero]
              refine Lim.stepS 15 (fun _ => trivial) rfl (by kernel_rfl) (fun _ _ _ _ h => h) hC rfl ?_
              simp only [Act.put, List.setIfInBounds_toArray, List.set_cons_succ, List.set_cons_zero]
              refine Lim.stepS 16 (fun _ => trivial) rfl (by kernel_rfl) (fun _ _ _ _ h => h) hC rfl ?_
              simp only [Act.put, List.setIfInBounds_toArray, List.set_cons_succ, List.set_cons_zero]
              refine Lim.stepS 17 (fun _ => trivial) rfl (by kernel_rfl) (fun _ _ _ _ h => h) hC rfl ?_
              simp only [Act.put, List.setIfInBounds_toArray, List.set_cons_succ, List.set_cons_zero]
              refine Lim.stepR 18 (fun _ => trivial) rfl (by kernel_rfl) (fun _ _ _ _ h => h) hC rfl ?_; apply Exists.intro; refine ⟨?_, ?_⟩
              · rintro w ⟨r1, r2⟩; go_simp; try with_reducible rfl
              simp only [Act.put, List.setIfInBounds_toArray, List.set_cons_succ, List.set_cons_zero]
              refine Lim.stepR 19 (fun _ => trivial) rfl (by kernel_rfl) (fun _ _ _ _ h => h) hC rfl ?_; apply Exists.intro; refine ⟨?_, ?_⟩
              · rintro w ⟨r1, r2⟩; go_simp; try with_reducible rfl
              simp only [Act.put, List.setIfInBounds_toArray, List.set_cons_succ, List.set_cons_zero]
              refine Lim.stepS 20 (fun _ => trivial) rfl (by kernel_rfl) (fun _ _ _ _ h => h) hC rfl ?_
              simp only [Act.put, List.setIfInBounds_toArray, List.set_cons_succ, List.set_cons_zero]
              refine Lim.stepS 21 (fun _ => trivial) rfl (by kernel_rfl) (fun _ _ _ _ h => h) hC rfl ?_
              simp only [Act.put, List.setIfInBounds_toArray, List.set_cons_succ, List.set_cons_zero]
              refine Lim.stepS 22 (fun _ => trivial) rfl (by kernel_rfl) (fun _ _ _ _ h => h) hC rfl ?_
              simp only [Act.put, List.setIfInBounds_toArray, List.set_cons_succ, List.set_cons_zero]
              refine Lim.stepS 23 (fun _ => trivial) rfl (by kernel_rfl) (fun _ _ _ _ h => h) hC rfl ?_
              simp only [Act.put, List.setIfInBounds_toArray, List.set_cons_succ, List.set_cons_zero]
              refine Lim.stepS 24 (fun _ => trivial) rfl (by kernel_rfl) (fun _ _ _ _ h => h) hC rfl ?_
              simp only [Act.put, List.setIfInBounds_toArray, List.set_cons_succ, List.set_cons_zero]
              refine Lim.stepS 25 (fun _ => trivial) rfl (by kernel_rfl) (fun _ _ _ _ h => h) hC rfl ?_
              simp only [Act.put, List.setIfInBounds_toArray, List.set_cons_succ, List.set_cons_zero]
              refine Lim.stepS 26 (fun _ => trivial) rfl (by kernel_rfl) (fun _ _ _ _ h => h) hC rfl ?_
              simp only [Act.put, List.setIfInBounds_toArray, List.set_cons_succ, List.set_cons_zero]
              refine Lim.stepS 27 (fun _ => trivial) rfl (by kernel_rfl) (fun _ _ _ _ h => h) hC rfl ?_
              simp only [Act.put, List.setIfInBounds_toArray, List.set_cons_succ, List.set_cons_zero]
              refine Lim.stepS 28 (fun _ => trivial) rfl (by kernel_rfl) (fun _ _ _ _ h => h) hC rfl ?_
              simp only [Act.put, List.setIfInBounds_toArray, List.set_cons_succ, List.set_cons_zero]
              refine Lim.stepS 29 (fun _ => trivial) rfl (by kernel_rfl) (fun _ _ _ _ h => h) hC rfl ?_
              simp only [Act.put, List.setIfInBounds_toArray, List.set_cons_succ, List.set_cons_zero]
              refine Lim.stepS 30 (fun _ => trivial) rfl (by kernel_rfl) (fun _ _ _ _ h => h) hC rfl ?_
              simp only [Act.put, List.setIfInBounds_toArray, List.set_cons_succ, List.set_cons_zero]
              refine Lim.stepS 31 (fun _ => trivial) rfl (by kernel_rfl) (fun _ _ _ _ h => h) hC rfl ?_
              simp only [Act.put, List.setIfInBounds_toArray, List.set_cons_succ, List.set_cons_zero]
              refine Lim.stepS 32 (fun _ => trivial) rfl (by kernel_rfl) (fun _ _ _ _ h => h) hC rfl ?_
              simp only [Act.put, List.setIfInBounds_toArray, List.set_cons_succ, List.set_cons_zero]
              refine Lim.stepS 33 (fun _ => trivial) rfl (by kernel_rfl) (fun _ _ _ _ h => h) hC rfl ?_
              simp only [Act.put, List.setIfInBounds_toArray, List.set_cons_succ, List.set_cons_zero]
              refine Lim.stepS 34 (fun _ => trivial) rfl (by kernel_rfl) (fun _ _ _ _ h => h) hC rfl ?_
              simp only [Act.put, List.setIfInBounds_toArray, List.set_cons_succ, List.set_cons_zero]
              refine Lim.stepS 35 (fun _ => trivial) rfl (by kernel_rfl) (fun _ _ _ _ h => h) hC rfl ?_
              simp only [Act.put, List.setIfInBounds_toArray, List.set_cons_succ, List.set_cons_zero]
              refine Lim.stepS 36 (fun _ => trivial) rfl (by kernel_rfl) (fun _ _ _ _ h => h) hC rfl ?_
              simp only [Act.put, List.setIfInBounds_toArray, List.set_cons_succ, List.set_cons_zero]
              refine Lim.stepS 37 (fun _ => trivial) rfl (by kernel_rfl) (fun _ _ _ _ h => h) hC rfl ?_
              simp only [Act.put, List.setIfInBounds_toArray, List.set_cons_succ, List.set_cons_zero]
              refine Lim.stepS 38 (fun _ => trivial) rfl (by kernel_rfl) (fun _ _ _ _ h => h) hC rfl ?_
              simp only [Act.put, List.setIfInBounds_toArray, List.set_cons_succ, List.set_cons_zero]
              refine Lim.stepS 39 (fun _ => trivial) rfl (by kernel_rfl) (fun _ _ _ _ h => h) hC rfl ?_
              simp only [Act.put, List.setIfInBounds_toArray, List.set_cons_succ, List.set_cons_zero]
              refine Lim.stepS 40 (fun _ => trivial) rfl (by kernel_rfl) (fun _ _ _ _ h => h) hC rfl ?_
              simp only [Act.put, List.setIfInBounds_toArray, List.set_cons_succ, List.set_cons_zero]
              refine Lim.stepR 41 (fun _ => trivial) rfl (by kernel_rfl) (fun _ _ _ _ h => h) hC rfl ?_; apply Exists.intro; refine ⟨?_, ?_⟩
              · rintro w ⟨r1, r2⟩; go_simp; try with_reducible rfl
              simp only [Act.put, List.setIfInBounds_toArray, List.set_cons_succ, List.set_cons_zero]
              refine Lim.stepD (by kernel_rfl) ?_
              clear hC
              go_wp2_with fail
              go_roundw
              case rel => exact ⟨j + 1, by omega, by go_num, Lib.hid hJ.out.drew⟩
              case measure => simp [intOf]; omega
          · obtain rfl : j = 2 := by omega
            go_wp2_with fail
            go_roundw
            case rel => exact ⟨p + 1, nx, by omega, by go_num, by go_num, Lib.hid ⟨HBB.out.trans (hJ.out.mono HBB.out.size), HN2.out⟩⟩
            case measure => simp [intOf]; omega
    · obtain rfl : p = m.n := by omega
      have HBX := Lib.hid hI.out.1
      clear hI
      go_wp2_with fail
      go_loopw [150] (fun iv W => ∃ i : Nat, i ≤ k ∧ iv = .int .i64 i ∧ Hid (Below w6.heap.size w6 W)) (fun iv _ => k - (intOf iv).toNat)
      case atStart => exact ⟨0, Nat.zero_le _, rfl, HBX⟩
      case round =>
        obtain ⟨i, hi, rfl, hI⟩ := hrel
        by_cases hik : i < k
        · have hi64 : (i : Int) < 100 := by omega
          go_wp2_with fail
          go_loopw [17, 154] (fun wv jv W => ∃ j : Nat, j ≤ k ∧ jv = .int .i64 j ∧ wv = .int .i64 (inCount m r i j : Nat) ∧ Hid (Below w6.heap.size w6 W)) (fun _ jv _ => k - (intOf jv).toNat)
          case atStart => exact ⟨0, Nat.zero_le _, rfl, rfl, hI⟩
          case round =>
            obtain ⟨j, hj, rfl, rfl, hJ⟩ := hrel
            have hcl := inCount_le (m := m) (r := r) (i := i) j
            have HCS : Hid (∀ c, c = inCount m r i j → (In m r i j → inCount m r i (j + 1) = c + 1) ∧ (¬ In m r i j → inCount m r i (j + 1) = c)) := Lib.hid fun c hc => by rw [hc]; exact ⟨inCount_add, inCount_skip⟩
            obtain ⟨c, hc⟩ : ∃ c, c = inCount m r i j := ⟨_, rfl⟩
            rw [← hc] at hcl ⊢
            have HC1 := Lib.hid (HCS.out c hc)
            have HCF := Lib.hid hc
            clear hc HCS
            by_cases hjk : j < k
            · have hj64 : (j : Int) < 100 := by omega
              by_cases e : i = j
              · have g0 : ((i : Int) == (j : Int)) = true := by simp [e]
                have HN1 : Hid (inCount m r i (j + 1) = c) := Lib.hid (HC1.out.2 (fun h => h.1 e))
                clear e
                go_wp2_with fail
                go_roundw
                case rel => exact ⟨j + 1, by omega, by go_num, by rw [HN1.out], hJ⟩
                case measure => simp [intOf]; omega
              · have g0 : ((i : Int) == (j : Int)) = false := by rw [beq_eq_false_iff_ne]; omega
                have HE1 := Lib.hid e
                obtain ⟨k0, k1⟩ := HK.out _ hJ.out
                have CO := Lib.hid (Out_any (wd := m.wd) (B := w6.heap.size) (ov := .slice (some ⟨ga, 0, none⟩) m.n gc) (os := m.os) (i : Int) (j : Int) (w := wr) (by show m.n ≤ _; omega) hJ.out.size (HV.out.below hJ.out))
                clear e
                go_wp2_with fail
                refine CO.out.mono ?_
                rintro e w7 h
                obtain ⟨hb, h⟩ := OuAns.told HM.out.2.2.2.2.1 HR.out.1 HR.out.2 hik hjk HE1.out h
                have HJ7 := Lib.hid (hJ.out.trans (hb.mono hJ.out.size))
                replace k0 := hb.on k0
                replace k1 := hb.on k1
                rcases h with ⟨hin, rfl⟩ | ⟨hin, v, L, hL, rfl, ho, hle⟩
                · have HN1 : Hid (inCount m r i (j + 1) = c + 1) := Lib.hid (HC1.out.1 hin)
                  clear hb hin
                  go_wp2_with fail
                  go_roundw
                  case rel => exact ⟨j + 1, by omega, by go_num, by rw [HN1.out]; go_num, HJ7⟩
                  case measure => simp [intOf]; omega
                · have HN1 : Hid (inCount m r i (j + 1) = c) := Lib.hid (HC1.out.2 hin)
                  have HLE := Lib.hid (Leads_any (wd := m.wd) (B := w7.heap.size) (ov := .slice (some ⟨ga, 0, none⟩) m.n gc) (os := m.os) (xs := L.map Int.ofNat) (wv := v) (i : Int) (j : Int) (w := w7) (by show m.n ≤ _; omega) (by rw [List.length_map]; omega) (Nat.le_refl _) ((HV.out.below HJ7.out).mono HJ7.out.size) (by rw [List.length_map]; exact RS.of_owns ho))
                  obtain ⟨vg, vo, rfl⟩ : ∃ a c, v = .slice a L.length c := by
                    obtain ⟨a, c, h, -⟩ := RS.of_owns ho
                    exact ⟨a, c, h⟩
                  obtain ⟨ai, hai⟩ : ∃ ai, ai = A i := ⟨_, rfl⟩
                  have HAI : Hid (ai ≠ (j : Int)) := Lib.hid fun e => by
                    rcases HA.out i hik with ⟨h1, -⟩ | ⟨a, h1, -, h2, -⟩
                    · omega
                    · exact hin (by rw [show j = a by omega]; exact h2)
                  have HANS := Lib.hid hle
                  clear hb hin ho hle
                  go_wp2_with fail
                  refine HLE.out.mono ?_
                  rintro e w8 h
                  obtain rfl := HANS.out _ _ _ h
                  have hb := h.1
                  have HJ8 := Lib.hid (HJ7.out.trans (hb.mono HJ7.out.size))
                  have da := ((HC.out _ HJ8.out).2 i hik).2
                  rw [← hai] at da
                  have gaj : (ai == (j : Int)) = false := beq_eq_false_iff_ne.2 HAI.out
                  clear hb h hai k0 k1
                  go_wp2_with fail
                  go_roundw
                  case rel => exact ⟨j + 1, by omega, by go_num, by rw [HN1.out], HJ8⟩
                  case measure => simp [intOf]; omega
            · obtain rfl : j = k := by omega
              have d1 := ((HC.out _ hJ.out).2 i hik).1
              have d2 := ((HC.out _ hJ.out).2 i hik).2
              rw [← HCF.out] at d1
              obtain ⟨ai, hai⟩ : ∃ ai, ai = A i := ⟨_, rfl⟩
              rw [← hai] at d2
              have HAI : Hid (IsAr m r i j ai) := Lib.hid (by rw [hai]; exact HA.out i hik)
              clear hai
              by_cases h0 : c = 0
              · subst h0
                obtain rfl : ai = -1 := by
                  rcases HAI.out with ⟨h, -⟩ | ⟨a, -, ha, h1, -⟩
                  · exact h
                  · have := inCount_pos.2 ⟨a, ha, h1⟩
                    have := HCF.out
                    omega
                go_wp2_with fail
                go_roundw
                case rel => exact ⟨i + 1, by omega, by go_num, hJ⟩
                case measure => simp [intOf]; omega
              · obtain ⟨a, hai, haj⟩ : ∃ a : Nat, ai = a ∧ a < j := by
                  rcases HAI.out with ⟨-, h⟩ | ⟨a, h1, h2, -⟩
                  · obtain ⟨x, hx, hix⟩ := inCount_pos.1 (show 0 < inCount m r i j by rw [← HCF.out]; omega)
                    exact absurd hix (h x hx)
                  · exact ⟨a, h1, h2⟩
                subst hai
                obtain ⟨c2, hc2⟩ : ∃ c2, c2 = inCount m r a j := ⟨_, rfl⟩
                have d3 := ((HC.out _ hJ.out).2 a haj).1
                rw [← hc2] at d3
                have hcc : c = c2 + 1 := by
                  have h := IsAr.depth HM.out.1 (HR.out.2.ex) hik HAI.out
                  rw [← HCF.out, ← hc2] at h
                  exact h
                subst hcc
                have g1 : ((a : Int) == -1) = false := beq_eq_false_iff_ne.2 (by omega)
                clear hc2
                go_wp2_with fail
                go_roundw
                case rel => exact ⟨i + 1, by omega, by go_num, hJ⟩
                case measure => simp [intOf]; omega
        · obtain rfl : i = k := by omega
          have CA := Lib.hid (awake_any wr)
          go_wp2_with fail
          refine CA.out.mono ?_
          rintro e w9 ⟨rfl, hb⟩
          have hbb := HB.out.trans ((hI.out.trans (hb.mono hI.out.size)).mono HB.out.size)
          have HBF := Lib.hid hbb
          clear hb hbb
          go_wp2
          go_ret
          exact ⟨rfl, HBF.out⟩
end Go.Proofs.Ytkjcnkkmhkcddaa
