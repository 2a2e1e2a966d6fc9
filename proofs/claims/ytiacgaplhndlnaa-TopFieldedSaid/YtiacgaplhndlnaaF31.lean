/-
  Parts of the proof, in the order in which they build: EvT.
-/
import Derived.Deep.CutRange
import Derived.Deep.MidRow
import Derived.Test.YtiacgaplhndlnaaF29
import Derived.Test.YtiacgaplhndlnaaF30
set_option linter.unusedVariables false
set_option linter.unusedSimpArgs false
namespace Go.Proofs.Ytiacgaplhndlnaa
open Go.RowKit Go.Shelf
open Lim

attribute [local go_sem] Oper.semAt_some

/-- T has the outermost region around region j, if there is one -/
def IsOutm (m : Mp) (r : Nat → Nat) (k : Nat) (T : Nat → Int) (j : Nat) : Prop := (T j = -1 ∧ Outer m r j) ∨ ∃ y : Nat, T j = y ∧ y < k ∧ In m r j y ∧ Outer m r y
/-- the first n plots that have another owner -/
def plotL (O own : Nat → Int) : Nat → List Nat
  | 0 => []
  | n + 1 => plotL O own n ++ if O n ≠ own n then [n] else []
theorem plotL_le (O own : Nat → Int) : ∀ n, (plotL O own n).length ≤ n
  | 0 => Nat.le_refl _
  | n + 1 => by have := plotL_le O own n; rw [plotL, List.length_append]; split <;> simp <;> omega
/-- how far it may still go outwards -/
noncomputable def meaO (m : Mp) (r : Nat → Nat) (k : Nat) : Option Value → Nat
  | some (.int _ y) => if y = -1 then 0 else inCount m r y.toNat k + 1
  | _ => 0
/-- what Clear answers -/
def ClrAns (wd : Int) (os : List Int) (w : World) (e : Ending) (w' : World) : Prop :=
  Below w.heap.size w w' ∧ ((errE wd os ≠ 0 ∧ e = .returned (.tuple #[.agg #[.int .i64 0, .slice none 0 0], .slice none 0 0, .int .i64 (errE wd os)])) ∨
    (errE wd os = 0 ∧ ∃ (r : Nat → Nat) (k : Nat) (T O : Nat → Int) (v pv : Value), IsReg ⟨wd.toNat, os⟩ r ∧ IsMany ⟨wd.toNat, os⟩ r k ∧ (∀ j, j < k → IsOutm ⟨wd.toNat, os⟩ r k T j) ∧ IsGiv ⟨wd.toNat, os⟩ r T O os.length ∧
      e = .returned (.tuple #[.agg #[.int .i64 wd, v], pv, .int .i64 0]) ∧ w'.ownsRow w.heap.size 3 1 v os.length (ints ((List.range os.length).map O)) ∧
      w'.ownsRow w.heap.size 3 1 pv (plotL O (fun p => os.getD p 0) os.length).length (ints ((plotL O (fun p => os.getD p 0) os.length).map Int.ofNat))))
set_option maxRecDepth 20000 in
set_option maxHeartbeats 4000000 in
theorem Clear_any {B : Nat} {wd : Int} {ov : Value} {os : List Int} {w : World} (hl : os.length ≤ 100000) (hB : B ≤ w.heap.size) (hv : RS B w ov os.length (ints os)) :
    Calls Try.prog 26 #[.agg #[.int .i64 wd, ov]] w fun e w' => ClrAns wd os w e w' := by
  have HB0 : Hid (Below w.heap.size w ((w.alloc (.cells #[.int .i64 wd, ov] 25)).alloc (.cells #[.int .i64 0, .slice none 0 0] 25))) := Lib.hid (((Below.refl _ w).alloc (Nat.le_refl _) _).alloc (by simp) _)
  have HO := Lib.hid (opened_any (w := (w.alloc (.cells #[.int .i64 wd, ov] 25)).alloc (.cells #[.int .i64 0, .slice none 0 0] 25)) (wd := wd) hl (by simp; omega) (hv.below (HB0.out.mono hB)))
  have hsz : w.heap.size + 2 = ((w.alloc (.cells #[.int .i64 wd, ov] 25)).alloc (.cells #[.int .i64 0, .slice none 0 0] 25)).heap.size := by simp
  have HS := Lib.hid (And.intro hsz hB)
  have HV := Lib.hid hv
  have f0 : ((w.alloc (.cells #[.int .i64 wd, ov] 25)).alloc (.cells #[.int .i64 0, .slice none 0 0] 25)).cell? ⟨w.heap.size, 0, none⟩ = some (.int .i64 wd) := by simp [go_sem]
  have f1 : ((w.alloc (.cells #[.int .i64 wd, ov] 25)).alloc (.cells #[.int .i64 0, .slice none 0 0] 25)).cell? ⟨w.heap.size, 1, none⟩ = some ov := by simp [go_sem]
  have f2 : ((w.alloc (.cells #[.int .i64 wd, ov] 25)).alloc (.cells #[.int .i64 0, .slice none 0 0] 25)).cell? ⟨w.heap.size + 1, 0, none⟩ = some (.int .i64 0) := by simp [go_sem]
  have f3 : ((w.alloc (.cells #[.int .i64 wd, ov] 25)).alloc (.cells #[.int .i64 0, .slice none 0 0] 25)).cell? ⟨w.heap.size + 1, 1, none⟩ = some (.slice none 0 0) := by simp [go_sem]
  have f4 : ((w.alloc (.cells #[.int .i64 wd, ov] 25)).alloc (.cells #[.int .i64 0, .slice none 0 0] 25)).frozen? ⟨w.heap.size + 1, 0, none⟩ = false := by simp [go_sem]
  have f5 : ((w.alloc (.cells #[.int .i64 wd, ov] 25)).alloc (.cells #[.int .i64 0, .slice none 0 0] 25)).frozen? ⟨w.heap.size + 1, 1, none⟩ = false := by simp [go_sem]
  obtain ⟨oa, oc, rfl, -⟩ := hv
  clear hl hB hsz
  go_enter Try.func26, Try.ntmps26
  refine wp_noPanic ?_
  go_wp2_with fail
  generalize (w.alloc (.cells #[.int .i64 wd, .slice oa os.length oc] 25)).alloc (.cells #[.int .i64 0, .slice none 0 0] 25) = w0 at HB0 HO HS f0 f1 f2 f3 f4 f5 ⊢
  refine HO.out.mono ?_
  clear HO
  rintro e w1 ⟨hb, h⟩
  have HB1 : Hid (Below w.heap.size w w1 ∧ w.heap.size + 1 < w1.heap.size) := Lib.hid ⟨HB0.out.trans (hb.mono HB0.out.size), by have := hb.size; have := HS.out.1; omega⟩
  have HBs : Hid (w0.heap.size ≤ w1.heap.size ∧ w.heap.size + 2 = w0.heap.size) := Lib.hid ⟨hb.size, HS.out.1⟩
  replace f4 := frozen_on hb f2 f4
  replace f5 := frozen_on hb f3 f5
  replace f0 := hb.on f0
  replace f1 := hb.on f1
  replace f2 := hb.on f2
  replace f3 := hb.on f3
  clear hb
  obtain ⟨q1, hq1⟩ : ∃ q, q = w.heap.size := ⟨_, rfl⟩
  obtain ⟨q4, hq4⟩ : ∃ q, q = w.heap.size + 1 := ⟨_, rfl⟩
  rw [← hq4] at f2 f3 f4 f5
  rw [← hq1] at f0 f1
  rw [← hq4, ← hq1]
  have HQ := Lib.hid (And.intro hq1 hq4)
  clear hq1 hq4
  rcases h with ⟨he, b, g, r, k, rfl, hlt, hw, hr, hk⟩ | ⟨he, rfl⟩
  · have HOK : Hid (Mp.Ok ⟨wd.toNat, os⟩ ∧ os.length ≤ 100 ∧ wd = (wd.toNat : Int)) := Lib.hid (by
      have h := countB_ok (wd := wd) (os := os) (by unfold errE at he; cases hc : countB wd os.length with
        | true => rfl
        | false => rw [hc] at he; cases he)
      exact ⟨h.1, h.1.n1, h.2⟩)
    have HE := Lib.hid he
    obtain ⟨m, hm⟩ : ∃ m : Mp, m = ⟨wd.toNat, os⟩ := ⟨_, rfl⟩
    have hwd : wd = (m.wd : Int) := by rw [hm]; exact HOK.out.2.2
    have hos : os = m.os := by rw [hm]
    rw [← hm] at HOK hw hr hk
    have HMS : Hid ((⟨wd.toNat, os⟩ : Mp) = m) := Lib.hid hm.symm
    clear hm
    subst hwd hos
    have hnn : m.os.length = m.n := rfl
    simp only [hnn] at f1 HOK HV ⊢
    have HW := Lib.hid (And.intro hlt (And.intro hr hk))
    have HWK := Lib.hid hw
    have hk100 : k ≤ 100 := Nat.le_trans hk.le HOK.out.1.n1
    have hk1 : 1 ≤ k := hk.pos HOK.out.1
    clear he hlt hr hk hnn
    clear hw
    have HAR := Lib.hid (around_any HOK.out.1 HW.out.2.1 HW.out.2.2 HWK.out)
    go_wp2_with fail
    refine HAR.out.mono ?_
    rintro e w2 ⟨g1, g2, A, rfl, hM, hA⟩
    have HM := Lib.hid (And.intro hM hA)
    have hbq : b ≠ q4 ∧ b ≠ q1 := ⟨by have := HW.out.1; have := HQ.out; have := HBs.out; omega, by have := HW.out.1; have := HQ.out; have := HBs.out; omega⟩
    have hcell : ∀ {x j : Nat} {u : Value}, w1.cell? ⟨x, j, none⟩ = some u → x ≠ b → w2.cell? ⟨x, j, none⟩ = some u := fun h hx => hM.gb.cell h (fun e => hx (by cases e; rfl))
    have HB2 : Hid (Below w.heap.size w w2 ∧ w1.heap.size ≤ w2.heap.size) := Lib.hid ⟨HB1.out.1.trans ⟨hM.gb.os, hM.gb.tape, hM.gb.output, hM.gb.size, fun x hx => hM.gb.block x (by have := HB1.out.2; omega) (fun e => by cases e; have := HW.out.1; have := HBs.out; omega)⟩, hM.gb.size⟩
    have HD2 : Hid (w2.cell? ⟨q1, 1, none⟩ = some (.slice oa m.n oc) ∧ w2.cell? ⟨q4, 0, none⟩ = some (.int .i64 0) ∧ w2.cell? ⟨q4, 1, none⟩ = some (.slice none 0 0) ∧ w2.frozen? ⟨q4, 0, none⟩ = false ∧ w2.frozen? ⟨q4, 1, none⟩ = false) :=
      Lib.hid ⟨hcell f1 (Ne.symm hbq.2), hcell f2 (Ne.symm hbq.1), hcell f3 (Ne.symm hbq.1), (hM.gb.frozen_far ⟨q4, 0, none⟩ (World.block_lt_of_cell? _ _ f2) (fun e => hbq.1 (by cases e; rfl))).trans f4, (hM.gb.frozen_far ⟨q4, 1, none⟩ (World.block_lt_of_cell? _ _ f3) (fun e => hbq.1 (by cases e; rfl))).trans f5⟩
    have HCL := Lib.hid (clone_any_int (B := w2.heap.size) (n := k) (v := .slice (some ⟨g2, 0, none⟩) k k) (xs := (List.range k).map A) (w := w2) (Nat.le_refl _) (RS.of_owns (hM.a.owns (base := 0) (Nat.zero_le _) (by omega))) (by simp) (by omega))
    clear hM hA hcell f0 f1 f2 f3 f4 f5 HAR
    go_wp2_with fail
    refine HCL.out.mono ?_
    rintro e w3 ⟨v3, rfl, hown, hb3⟩
    obtain ⟨g3, cap, rfl, hg3, hR⟩ := RowK.of_owns hown hk1
    have HR : Hid (RowK w3 g3 k cap A) := Lib.hid ⟨fun j hj => by have h := hR.c j hj; simpa [hj] using h, hR.f, hR.o, hR.le⟩
    have HG3 := Lib.hid hg3
    have HB3 := Lib.hid (And.intro hb3 (HB2.out.1.trans (hb3.mono HB2.out.1.size)))
    have HA3 : Hid (∀ j, j < k → w3.cell? ⟨g2, j, none⟩ = some (.int .i64 (A j))) := Lib.hid (fun j hj => hb3.on (HM.out.1.a.c j hj))
    have hg23 : g2 ≠ g3 := by have := HM.out.1.a.lt; omega
    have hk64 : (k : Int) < 1000 := by omega
    clear hown hb3 hg3 hR HCL
    go_wp2_with fail
    go_loopw [33] (fun v wr => ∃ t : Nat, t ≤ k ∧ v = .int .i64 t ∧ ∃ T : Nat → Int, Hid (Sep (fun x => x = g3) w3 wr ∧ RowK wr g3 k cap T ∧ (∀ j, j < t → IsOutm m r k T j) ∧ (∀ j, t ≤ j → T j = A j))) (fun v _ => k - (intOf v).toNat)
    case atStart => exact ⟨0, Nat.zero_le _, rfl, A, Lib.hid ⟨Sep.refl _, HR.out, fun j hj => absurd hj (Nat.not_lt_zero _), fun _ _ => rfl⟩⟩
    case round =>
      obtain ⟨t, ht, rfl, T, hI⟩ := hrel
      by_cases hlt : t < k
      · have ht64 : (t : Int) < 100 := by omega
        have HLT := Lib.hid hlt
        go_wp2_with fail
        have HREL : Hid (∀ (T' : Nat → Int) (W : World), Sep (fun x => x = g3) w3 W → RowK W g3 k cap T' → (∀ j, j ≠ t → T' j = T j) → IsOutm m r k T' t → Hid (Sep (fun x => x = g3) w3 W ∧ RowK W g3 k cap T' ∧ (∀ j, j < t + 1 → IsOutm m r k T' j) ∧ (∀ j, t + 1 ≤ j → T' j = A j))) := Lib.hid (fun T' W h1 h2 h3 h4 => Lib.hid ⟨h1, h2, fun j hj => by
          by_cases e : j = t
          · rw [e]; exact h4
          · have h5 := hI.out.2.2.1 j (by omega)
            unfold IsOutm at h5 ⊢
            rw [h3 j e]; exact h5, fun j hj => by rw [h3 j (by omega)]; exact hI.out.2.2.2 j (by omega)⟩)
        have e0 : wr.cell? ⟨g3, t, none⟩ = some (.int .i64 (A t)) := by rw [← hI.out.2.2.2 t (Nat.le_refl _)]; exact hI.out.2.1.c t HLT.out
        go_loopw [39] (fun v wr => ∃ (T' : Nat → Int) (x : Int), wr.cell? ⟨g3, t, none⟩ = some (.int .i64 x) ∧ wr.frozen? ⟨g3, t, none⟩ = false ∧ Hid (Sep (fun x => x = g3) w3 wr ∧ RowK wr g3 k cap T' ∧ (∀ j, j ≠ t → T' j = T j) ∧ T' t = x ∧ ((x = -1 ∧ A t = -1) ∨ ∃ y : Nat, x = y ∧ y < k ∧ In m r t y))) (fun _ wr => meaO m r k (wr.cell? ⟨g3, t, none⟩))
        case atStart =>
          refine ⟨T, A t, e0, hI.out.2.1.f t HLT.out, Lib.hid ⟨hI.out.1, hI.out.2.1, fun _ _ => rfl, hI.out.2.2.2 t (Nat.le_refl _), ?_⟩⟩
          rcases HM.out.2 t HLT.out with ⟨h1, -⟩ | ⟨a, h1, h2, h3, -⟩
          · exact .inl ⟨h1, h1⟩
          · exact .inr ⟨a, h1, h2, h3⟩
        case round =>
          clear e0 hI
          obtain ⟨T', x, hc, hf, hT⟩ := hrel
          by_cases hx : x = -1
          · have HX : Hid (IsOutm m r k T' t) := Lib.hid (by
              rcases hT.out.2.2.2.2 with ⟨-, h⟩ | ⟨y, h, -⟩
              · exact .inl ⟨by rw [hT.out.2.2.2.1]; exact hx, IsAr.outer HOK.out.1 HW.out.2.2 HLT.out (by rw [← h]; exact HM.out.2 t HLT.out)⟩
              · omega)
            subst hx
            have gx : ((-1 : Int) != -1) = false := by decide
            go_wp2_with fail
            go_roundw
            case rel => exact ⟨t + 1, by have := HLT.out; omega, by go_num, T', HREL.out T' _ hT.out.1 hT.out.2.1 hT.out.2.2.1 HX.out⟩
            case measure => simp [intOf]; have := HLT.out; omega
          · have gx : (x != -1) = true := by simpa using hx
            obtain ⟨y, hxy, hyk, hty⟩ : ∃ y : Nat, x = y ∧ y < k ∧ In m r t y := by
              rcases hT.out.2.2.2.2 with ⟨h, -⟩ | h
              · exact absurd h hx
              · exact h
            subst hxy
            have HTY := Lib.hid (And.intro hty hT.out.2.2.2.1)
            obtain ⟨z, hz⟩ : ∃ z, z = A y := ⟨_, rfl⟩
            have ez : wr.cell? ⟨g2, y, none⟩ = some (.int .i64 z) := by rw [hz]; exact hT.out.1.cell (HA3.out y hyk) hg23
            have HAY : Hid (IsAr m r y k z) := Lib.hid (by rw [hz]; exact HM.out.2 y hyk)
            clear hx hty hz
            by_cases hz1 : z = -1
            · have HX : Hid (IsOutm m r k T' t) := Lib.hid (.inr ⟨y, HTY.out.2, hyk, HTY.out.1, IsAr.outer HOK.out.1 HW.out.2.2 hyk (by rw [← hz1]; exact HAY.out)⟩)
              subst hz1
              have gz : ((-1 : Int) != -1) = false := by decide
              go_wp2_with fail
              go_roundw
              case rel => exact ⟨t + 1, by have := HLT.out; omega, by go_num, T', HREL.out T' _ hT.out.1 hT.out.2.1 hT.out.2.2.1 HX.out⟩
              case measure => simp [intOf]; have := HLT.out; omega
            · have gz : (z != -1) = true := by simpa using hz1
              obtain ⟨zN, rfl⟩ : ∃ zN : Nat, z = zN := by
                rcases HAY.out with ⟨h, -⟩ | ⟨a, h, -⟩
                · exact absurd h hz1
                · exact ⟨a, h⟩
              have HO : Hid (In m r t zN ∧ zN < k ∧ inCount m r zN k < inCount m r y k) := Lib.hid (IsAr.outwards HOK.out.1 HW.out.2.2.ex HLT.out hyk HTY.out.1 HAY.out)
              have hs := Sep.set wr g3 t (.int .i64 zN)
              have HS : Hid (Sep (fun x => x = g3) w3 (wr.setCell ⟨g3, t, none⟩ (.int .i64 zN)) ∧ RowK (wr.setCell ⟨g3, t, none⟩ (.int .i64 zN)) g3 k cap (upd T' t zN) ∧ (∀ j, j ≠ t → upd T' t zN j = T j) ∧ upd T' t zN t = zN ∧ (((zN : Int) = -1 ∧ A t = -1) ∨ ∃ y : Nat, (zN : Int) = y ∧ y < k ∧ In m r t y)) :=
                Lib.hid ⟨hT.out.1.trans hs, hT.out.2.1.put HLT.out zN, fun j hj => (upd_ne _ _ hj).trans (hT.out.2.2.1 j hj), upd_same _ _ _, .inr ⟨zN, rfl, HO.out.2.1, HO.out.1⟩⟩
              clear hs hz1
              go_wp2_with fail
              go_roundw
              case rel => exact ⟨_, zN, setCell_same _ _ hc, by rw [World.frozen?_setCell]; exact hf, HS⟩
              case measure =>
                rw [setCell_same _ _ hc, hc]
                simp only [meaO]
                rw [if_neg (by omega), if_neg (by omega)]
                have := HO.out.2.2
                simp only [Int.toNat_natCast]
                omega
      · obtain rfl : t = k := by omega
        have HI := Lib.hid hI.out
        have hb34 : Below w3.heap.size w3 wr ∨ True := .inr trivial
        have hB2 : B ≤ w3.heap.size := by have := HS.out.2; have := HB3.out.2.size; omega
        have hg3' := HG3.out
        have hg12 := HM.out.1.lt
        have hz12 := HB2.out.2
        have HWK3 := Lib.hid ((HM.out.1.wk.below HB3.out.1).sep hI.out.1 (by omega) (by omega) (fun y hy => by have := HB2.out.1.size; have := HS.out.2; omega))
        have HB4 : Hid (Below w.heap.size w wr) := Lib.hid (HB3.out.2.trans (hI.out.1.below HB3.out.2.size (fun y hy => by have := HB2.out.1.size; omega)))
        have hqs : q1 < w2.heap.size ∧ q4 < w2.heap.size := by have := HQ.out; have := HB1.out.2; omega
        have HD4 : Hid (wr.cell? ⟨q1, 1, none⟩ = some (.slice oa m.n oc) ∧ wr.cell? ⟨q4, 0, none⟩ = some (.int .i64 0) ∧ wr.cell? ⟨q4, 1, none⟩ = some (.slice none 0 0) ∧ wr.frozen? ⟨q4, 0, none⟩ = false ∧ wr.frozen? ⟨q4, 1, none⟩ = false) := by
          have d := HD2.out
          have hb := HB3.out.1
          exact Lib.hid ⟨hI.out.1.cell (hb.on d.1) (by omega), hI.out.1.cell (hb.on d.2.1) (by omega), hI.out.1.cell (hb.on d.2.2.1) (by omega), hI.out.1.frozen (hb.on d.2.1) (by omega) (frozen_on hb d.2.1 d.2.2.2.1), hI.out.1.frozen (hb.on d.2.2.1) (by omega) (frozen_on hb d.2.2.1 d.2.2.2.2)⟩
        have HGV := Lib.hid (given_any (T := T) (tv := .slice (some ⟨g3, 0, none⟩) t cap) HOK.out.1 HW.out.2.1 HW.out.2.2 HWK3.out (by have := HB4.out.size; have := HS.out.2; omega) (fun j hj => by
          rcases HI.out.2.2.1 j hj with ⟨h, -⟩ | ⟨y, h1, h2, -⟩
          · exact .inl h
          · exact .inr ⟨y, h1, h2⟩) (RS.of_owns (HI.out.2.1.owns (base := 0) (Nat.zero_le _))))
        clear hI hb34 hg3' hg12 hz12 hqs hB2
        go_wp2_with fail
        refine HGV.out.mono ?_
        rintro e w5 ⟨hb5, v, O, rfl, hO, hown⟩
        obtain ⟨g5, c5, rfl⟩ : ∃ g5 c5, v = .slice (some ⟨g5, 0, none⟩) m.n c5 := by
          rcases hown.2 with ⟨-, h0⟩ | ⟨g', cap, cur, h0, -⟩
          · have := HOK.out.1.n0; omega
          · exact ⟨_, _, h0⟩
        have hal : Below w5.heap.size w5 (w5.alloc (.cells #[.int .i64 m.wd, .slice (some ⟨g5, 0, none⟩) m.n c5] 25)) := (Below.refl _ w5).alloc (Nat.le_refl _) _
        have HW6 : Hid (Below w.heap.size w (w5.alloc (.cells #[.int .i64 m.wd, .slice (some ⟨g5, 0, none⟩) m.n c5] 25)) ∧ (w5.alloc (.cells #[.int .i64 m.wd, .slice (some ⟨g5, 0, none⟩) m.n c5] 25)).ownsRow w.heap.size 3 1 (.slice (some ⟨g5, 0, none⟩) m.n c5) m.n (ints ((List.range m.n).map O)) ∧ w5.heap.size < (w5.alloc (.cells #[.int .i64 m.wd, .slice (some ⟨g5, 0, none⟩) m.n c5] 25)).heap.size ∧ (w5.alloc (.cells #[.int .i64 m.wd, .slice (some ⟨g5, 0, none⟩) m.n c5] 25)).cell? ⟨w5.heap.size, 0, none⟩ = some (.int .i64 m.wd) ∧ (w5.alloc (.cells #[.int .i64 m.wd, .slice (some ⟨g5, 0, none⟩) m.n c5] 25)).cell? ⟨w5.heap.size, 1, none⟩ = some (.slice (some ⟨g5, 0, none⟩) m.n c5)) := by
          have hb45 := HB4.out.trans (hb5.mono HB4.out.size)
          exact Lib.hid ⟨hb45.trans (hal.mono hb45.size), owns_mono (owns_below hown hal) (by have := HB4.out.size; omega), by simp, by simp [go_sem], by simp [go_sem]⟩
        have HD6 : Hid ((w5.alloc (.cells #[.int .i64 m.wd, .slice (some ⟨g5, 0, none⟩) m.n c5] 25)).cell? ⟨q1, 1, none⟩ = some (.slice oa m.n oc) ∧ (w5.alloc (.cells #[.int .i64 m.wd, .slice (some ⟨g5, 0, none⟩) m.n c5] 25)).cell? ⟨q4, 0, none⟩ = some (.int .i64 0) ∧ (w5.alloc (.cells #[.int .i64 m.wd, .slice (some ⟨g5, 0, none⟩) m.n c5] 25)).cell? ⟨q4, 1, none⟩ = some (.slice none 0 0) ∧ (w5.alloc (.cells #[.int .i64 m.wd, .slice (some ⟨g5, 0, none⟩) m.n c5] 25)).frozen? ⟨q4, 0, none⟩ = false ∧ (w5.alloc (.cells #[.int .i64 m.wd, .slice (some ⟨g5, 0, none⟩) m.n c5] 25)).frozen? ⟨q4, 1, none⟩ = false) := by
          have d := HD4.out
          exact Lib.hid ⟨hal.on (hb5.on d.1), hal.on (hb5.on d.2.1), hal.on (hb5.on d.2.2.1), frozen_on hal (hb5.on d.2.1) (frozen_on hb5 d.2.1 d.2.2.2.1), frozen_on hal (hb5.on d.2.2.1) (frozen_on hb5 d.2.2.1 d.2.2.2.2)⟩
        have HOO := Lib.hid hO
        have HAP : Hid (q4 < g5) := Lib.hid (by
          have h1 := (hown.lt g5 (by simp [Value.ownBlock])).1
          have hq := World.block_lt_of_cell? _ _ HD4.out.2.1
          have hq : q4 < wr.heap.size := hq
          omega)
        have hq64 : q4 < w5.heap.size := World.block_lt_of_cell? _ _ (hb5.on HD4.out.2.1)
        clear hb5 hO hown hal
        have d6 := HW6.out.2.2.2.2
        go_wp2_with fail
        clear d6
        generalize w5.alloc (.cells #[.int .i64 m.wd, .slice (some ⟨g5, 0, none⟩) m.n c5] 25) = w6 at HW6 HD6 ⊢
        obtain ⟨q11, hq11⟩ : ∃ q, q = w5.heap.size := ⟨_, rfl⟩
        rw [← hq11] at HW6 hq64 ⊢
        clear hq11
        obtain ⟨i0, hi, hz0, hz1, hz2⟩ := info_parts Try.infoInt
        have HF := Lib.hid (And.intro hi (And.intro hz0 (And.intro hz1 hz2)))
        have HO6 : Hid (∀ p, p < m.n → w6.cell? ⟨g5, p, none⟩ = some (.int .i64 (O p))) := Lib.hid (fun p hp => by
          have h := HW6.out.2.1.cells (g := g5) rfl p (.int .i64 (O p)) (by simp [ints, hp])
          rw [Addr.add_lit, Nat.zero_add] at h
          exact h)
        obtain ⟨oa', oc', hse, hso⟩ := HV.out
        cases hse
        obtain ⟨ob, oo, rfl, hob, hoc⟩ := hso (ints_ne (show 0 < m.os.length from HOK.out.1.n0))
        have HOC : Hid (∀ q, q < m.n → w6.cell? ⟨ob, oo + q, none⟩ = some (.int .i64 (m.own q))) := Lib.hid (fun q hq => cell_below HW6.out.1 (hoc q _ (ints_at' _ _ hq)) (by have := HS.out.2; show ob < _; omega))
        clear hi hz0 hz1 hz2 hso hoc hob
        have hn100 : m.n ≤ 100 := HOK.out.2.1
        go_loopw [12, 68] (fun v iv wr => ∃ p : Nat, p ≤ m.n ∧ iv = .int .i64 p ∧ Hid (Below w6.heap.size w6 wr ∧ wr.ownsRow w6.heap.size 3 1 v (plotL O m.own p).length (ints ((plotL O m.own p).map Int.ofNat)))) (fun _ iv _ => m.n - (intOf iv).toNat)
        case atStart => exact ⟨0, Nat.zero_le _, rfl, Lib.hid ⟨Below.refl _ _, World.ownsRow_nil _ _ _ _⟩⟩
        case round =>
          obtain ⟨p, hp, rfl, hP⟩ := hrel
          by_cases hlt : p < m.n
          · have hp64 : (p : Int) < 100 := by omega
            have d1 := hP.out.1.on (HO6.out p hlt)
            have d2 := hP.out.1.on HD6.out.1
            have d3 := hP.out.1.on (HOC.out p hlt)
            obtain ⟨o, ho⟩ : ∃ o, o = O p := ⟨_, rfl⟩
            obtain ⟨o', ho'⟩ : ∃ o', o' = m.own p := ⟨_, rfl⟩
            rw [← ho] at d1
            rw [← ho'] at d3
            by_cases hoo : o = o'
            · have HN : Hid (plotL O m.own (p + 1) = plotL O m.own p) := Lib.hid (by rw [plotL, if_neg (by rw [← ho, ← ho', hoo]; exact fun h => h rfl), List.append_nil])
              have g1 : (o != o') = false := by simp [hoo]
              clear ho ho' hoo
              go_wp2_with fail
              go_roundw
              case rel => exact ⟨p + 1, by omega, by go_num, Lib.hid ⟨hP.out.1, by rw [HN.out]; exact hP.out.2⟩⟩
              case measure => simp [intOf]; omega
            · have HN : Hid (plotL O m.own (p + 1) = plotL O m.own p ++ [p]) := Lib.hid (by rw [plotL, if_pos (by rw [← ho, ← ho']; exact hoo)])
              have g1 : (o != o') = true := by simpa using hoo
              have HL : Hid ((plotL O m.own p).length ≤ 100) := Lib.hid (by have := plotL_le O m.own p; omega)
              obtain ⟨L, hL⟩ : ∃ L, L = (plotL O m.own p).map Int.ofNat := ⟨_, rfl⟩
              obtain ⟨Ln, hLn⟩ : ∃ Ln, Ln = (plotL O m.own p).length := ⟨_, rfl⟩
              have hown := hP.out.2
              rw [← hL, ← hLn] at hown
              rw [← hLn] at HL
              have HOW := Lib.hid hown
              have HLE := Lib.hid (And.intro hL hLn)
              clear ho ho' hoo hL hLn hown
              go_wp2_with (at_builtin; refine wpList_append_own _ rfl _ _ 23 rfl w6.heap.size 3 i0 (.int .i64 0) 1 8 Try.underlying23 HF.out.1 HF.out.2.1 HF.out.2.2.1 HF.out.2.2.2 rfl (by decide) _ _ _ rfl (HOW.out.alloc _) ⟨wr.heap.size, 0, none⟩ 1 1 [.int .i64 p] rfl rfl (cell_one_new _ _ _) (by simp [Value.oneCell']) (by have := HL.out; unfold maxLen; omega) (by have := HL.out; omega) (by have := hP.out.1.size; simp; omega) ?_; intro v' w7 hown7 hgrow _; have hb7 : Below w6.heap.size w6 w7 := (hP.out.1.trans (((Below.refl _ wr).alloc (Nat.le_refl _) _).mono hP.out.1.size)).grown hgrow (Nat.le_trans hP.out.1.size (by simp)) (fun x hx => by { have := (HOW.out.lt x hx).1; omega }); have HW7 := Lib.hid (And.intro hb7 hown7); clear hown7 hgrow hb7)
              go_roundw
              case rel =>
                refine ⟨p + 1, by omega, by go_num, Lib.hid ⟨HW7.out.1, ?_⟩⟩
                rw [HN.out, List.length_append, ← HLE.out.2, List.map_append, ← HLE.out.1]
                have := HW7.out.2
                simpa [ints] using this
              case measure => simp [intOf]; omega
          · obtain rfl : p = m.n := by omega
            have hbP := hP.out.1
            have a0 := hbP.on HW6.out.2.2.2.1
            have a1 := hbP.on HW6.out.2.2.2.2
            have b0 := hbP.on HD6.out.2.1
            have b1 := hbP.on HD6.out.2.2.1
            have b2 := frozen_on hbP HD6.out.2.1 HD6.out.2.2.2.1
            have b3 := frozen_on hbP HD6.out.2.2.1 HD6.out.2.2.2.2
            clear hbP
            go_wp2_with fail
            have hs : Sep (fun x => x = q4) wr ((wr.setCell ⟨q4, 0, none⟩ (.int .i64 m.wd)).setCell ⟨q4, 1, none⟩ (.slice (some ⟨g5, 0, none⟩) m.n c5)) := (Sep.set wr q4 0 _).trans (Sep.set _ q4 1 _)
            have r0 : ((wr.setCell ⟨q4, 0, none⟩ (.int .i64 m.wd)).setCell ⟨q4, 1, none⟩ (.slice (some ⟨g5, 0, none⟩) m.n c5)).cell? ⟨q4, 0, none⟩ = some (.int .i64 m.wd) := by rw [setCell_off _ _ (by omega)]; exact setCell_same _ _ b0
            have r1 : ((wr.setCell ⟨q4, 0, none⟩ (.int .i64 m.wd)).setCell ⟨q4, 1, none⟩ (.slice (some ⟨g5, 0, none⟩) m.n c5)).cell? ⟨q4, 1, none⟩ = some (.slice (some ⟨g5, 0, none⟩) m.n c5) := setCell_same _ _ (by rw [setCell_off _ _ (by omega)]; exact b1)
            refine bodyPost_ret (results_ctt (fn := Try.f26) (p := 2) (t := 3) (u := 4) (ty := 25) rfl _ _ q4 _ rfl (load_map r0 r1)) rfl ?_
            have hBw : Below w.heap.size w wr := HW6.out.1.trans (hP.out.1.mono HW6.out.1.size)
            have hq4w : w.heap.size ≤ q4 := by have := HQ.out; omega
            have hq46 : q4 < w6.heap.size := World.block_lt_of_cell? _ _ HD6.out.2.1
            -- the map's owners lie in a block of their own, apart from the results' box
            have hg5 : q4 ≠ g5 := Nat.ne_of_lt HAP.out
            have hown1 := owns_below HW6.out.2.1 hP.out.1
            have hsv : ∀ {v : Value} {n : Nat} {xs : List Int}, wr.ownsRow w.heap.size 3 1 v n (ints xs) → v.ownBlock ≠ some q4 → ((wr.setCell ⟨q4, 0, none⟩ (.int .i64 m.wd)).setCell ⟨q4, 1, none⟩ (.slice (some ⟨g5, 0, none⟩) m.n c5)).ownsRow w.heap.size 3 1 v n (ints xs) := fun {v n xs} h hv => by
              refine ⟨h.1, ?_⟩
              rcases h.2 with hn | ⟨gg, cap', cur, hvv, hB', hgg, rr⟩
              · exact .inl hn
              · exact .inr ⟨gg, cap', cur, hvv, hB', hs.heap hgg (fun e => hv (by rw [hvv]; simp [Value.ownBlock, e])), rr⟩
            rw [← HMS.out] at HW
            refine ⟨hBw.trans (hs.below hBw.size (fun x hx => by rw [hx]; exact hq4w)), .inr ⟨HE.out, r, t, T, O, _, _, HW.out.2.1, HW.out.2.2, ?_, ?_, rfl, hsv hown1 (by simp [Value.ownBlock]; exact Ne.symm hg5), hsv (owns_mono hP.out.2 (by omega)) (fun e => by have := (hP.out.2.lt _ e).1; omega)⟩⟩
            · rw [HMS.out]; exact HI.out.2.2.1
            · rw [HMS.out]; exact HOO.out
  · have g1 : (errE wd os != 0) = true := by simpa using he
    have HE := Lib.hid he
    obtain ⟨er, her⟩ : ∃ er, er = errE wd os := ⟨_, rfl⟩
    rw [← her] at g1 ⊢
    have HER := Lib.hid her
    clear he her
    go_wp2_with fail
    have hs : Sep (fun x => x = q4) w1 ((w1.setCell ⟨q4, 0, none⟩ (.int .i64 0)).setCell ⟨q4, 1, none⟩ (.slice none 0 0)) := (Sep.set w1 q4 0 _).trans (Sep.set _ q4 1 _)
    have r0 : ((w1.setCell ⟨q4, 0, none⟩ (.int .i64 0)).setCell ⟨q4, 1, none⟩ (.slice none 0 0)).cell? ⟨q4, 0, none⟩ = some (.int .i64 0) := by rw [setCell_off _ _ (by omega)]; exact setCell_same _ _ f2
    have r1 : ((w1.setCell ⟨q4, 0, none⟩ (.int .i64 0)).setCell ⟨q4, 1, none⟩ (.slice none 0 0)).cell? ⟨q4, 1, none⟩ = some (.slice none 0 0) := setCell_same _ _ (by rw [setCell_off _ _ (by omega)]; exact f3)
    refine bodyPost_ret (results_ctt (fn := Try.f26) (p := 2) (t := 3) (u := 4) (ty := 25) rfl _ _ q4 _ rfl (load_map r0 r1)) rfl ?_
    exact ⟨HB1.out.1.trans (hs.below HB1.out.1.size (fun x hx => by rw [hx]; have := HQ.out; omega)), .inl ⟨HE.out, by rw [← HER.out]; rfl⟩⟩
end Go.Proofs.Ytiacgaplhndlnaa
