/-
  Parts of the proof, in the order in which they build: EzG, EzJ, EzK, EzN, EzL.
-/
import Derived.Maps.AppendAt
import Derived.Deep.CutRange
import Derived.BigQuiet
import Derived.Test.YtkjcnkkmhkcddaaA40
import Derived.Test.YtkjcnkkmhkcddaaC1
import Derived.Test.YtkjcnkkmhkcddaaA58
import Derived.Test.YtkjcnkkmhkcddaaA25
import Derived.Test.YtkjcnkkmhkcddaaA14
set_option linter.unusedVariables false
set_option linter.unusedSimpArgs false
/-
  Lands that are right, in plain words; and what Divide answers on them.
-/
namespace Go.Proofs.Ytkjcnkkmhkcddaa
open Go.RowKit Go.Shelf
open Lim

/-- a land without error -/
structure LandG (wd hi : Nat) (os es ss : List Int) : Prop where
  w1 : 1 ≤ wd
  h1 : 1 ≤ hi
  n1 : wd * hi ≤ 100
  lo : os.length = wd * hi
  le : es.length = wd * hi
  ls : ss.length = wd * hi
  o : ∀ k, k < wd * hi → -1 ≤ os.getD k 0 ∧ os.getD k 0 ≤ 1
  e : ∀ k, k < wd * hi → 0 ≤ es.getD k 0 ∧ es.getD k 0 ≤ 1000
  s : ∀ k, k < wd * hi → 0 ≤ ss.getD k 0 ∧ ss.getD k 0 ≤ 1000
  ee : ∀ k, k < wd * hi → k % wd + 1 = wd → es.getD k 0 = 0
  se : ∀ k, k < wd * hi → wd * hi ≤ k + wd → ss.getD k 0 = 0
  a : ∃ k, k < wd * hi ∧ os.getD k 0 = 0
  b : ∃ k, k < wd * hi ∧ os.getD k 0 = 1
theorem getD_mem {l : List Int} {k : Nat} {x : Int} (hk : k < l.length) (h : l.getD k 0 = x) : x ∈ l := by
  rw [List.getD_eq_getElem?_getD, List.getElem?_eq_getElem hk] at h
  rw [← h]
  exact List.getElem_mem hk
theorem LandG.err {wd hi : Nat} {os es ss : List Int} (h : LandG wd hi os es ss) : errL wd os es ss = 0 := by
  have h4 : 0 < wd * hi := Nat.mul_pos h.w1 h.h1
  have hc : countB (wd : Int) os.length = true := by
    unfold countB
    have := h.lo
    have := h.n1
    have := h.w1
    rw [inB_true (by omega) (by omega)]
    simp only [Bool.true_and, Bool.and_eq_true, decide_eq_true_eq]
    refine ⟨by omega, ?_⟩
    rw [h.lo, Int.toNat_natCast, Nat.mul_mod_right]
  have h1 : sizL wd os es ss = true := by
    simp only [sizL, hc, Bool.true_and, Bool.and_eq_true, decide_eq_true_eq]
    exact ⟨by rw [h.le, h.lo], by rw [h.ls, h.lo]⟩
  have h2 : valL os es ss = true := by
    simp only [valL, Bool.and_eq_true, List.all_eq_true, List.mem_range, inB_iff]
    exact ⟨⟨fun k hk => h.o k (by rw [← h.lo]; exact hk), fun k hk => h.e k (by rw [← h.le]; exact hk)⟩, fun k hk => h.s k (by rw [← h.ls]; exact hk)⟩
  have h3 : ((List.range os.length).any fun q => badL (wd : Int).toNat es ss os.length q) = false := by
    rw [List.any_eq_false]
    intro k hk
    have hk : k < wd * hi := by rw [← h.lo]; exact List.mem_range.1 hk
    have e1 := h.ee k hk
    have e2 := h.se k hk
    simp only [badL, Int.toNat_natCast, h.lo, Bool.or_eq_true, Bool.and_eq_true, decide_eq_true_eq]
    rintro (⟨a, b⟩ | ⟨a, b⟩)
    · rw [e1 a] at b; exact absurd b (by decide)
    · rw [e2 a] at b; exact absurd b (by decide)
  obtain ⟨ka, ha, ea⟩ := h.a
  obtain ⟨kb, hb, eb⟩ := h.b
  unfold errL
  rw [if_pos h1, if_pos h2, h3, if_neg (by decide), if_pos ⟨getD_mem (by rw [h.lo]; exact ha) ea, getD_mem (by rw [h.lo]; exact hb) eb⟩]
theorem cutES_eq {n wd : Nat} {E S : Nat → Int} {D : Nat → Bool} (hw : 0 < wd) (hd : n % wd = 0) : cutOf n (fun a b => (hsF n wd E S a b).getD 0) D = cutES n wd E S D := by
  have h := cutL_cut (n := n) (wd := wd) (o := fun k => if D k = true then 1 else 0) (E := E) (S := S) (D := D) hw hd (fun a b _ _ => by cases D a <;> cases D b <;> simp)
  rw [← h, cutL_sum]
  refine sm_congr n fun a _ => ?_
  have e : ∀ x y, ((fun k => if D k = true then (1 : Int) else 0) x ≠ (fun k => if D k = true then (1 : Int) else 0) y) ↔ D x ≠ D y := fun x y => by cases h1 : D x <;> cases h2 : D y <;> simp [h1, h2]
  simp only [e]
/-- Divide's answer on a land without error: the fewest that can be cut -/
def DivMin (wd hi : Nat) (os es ss : List Int) (w : World) (e : Ending) (w' : World) : Prop :=
  Below w.heap.size w w' ∧ ∃ (M : Nat → Bool) (v : Value) (c : Int), e = .returned (.tuple #[v, .int .i64 c, .int .i64 0]) ∧ w'.ownsRow w.heap.size 3 1 v (wd * hi) (ints (ownL M (wd * hi))) ∧ Keeps (wd * hi) (fun k => os.getD k 0) (fun k => !M k) ∧ c = cutES (wd * hi) wd (fun k => es.getD k 0) (fun k => ss.getD k 0) (fun k => !M k) ∧ IsMin (wd * hi) wd (fun k => os.getD k 0) (fun k => es.getD k 0) (fun k => ss.getD k 0) c
theorem DivAns.min {wd hi : Nat} {os es ss : List Int} {w w' : World} {e : Ending} (h : LandG wd hi os es ss) (ha : DivAns wd os es ss w e w') : DivMin wd hi os es ss w e w' := by
  obtain ⟨hb, ⟨he, -⟩ | ⟨-, M, v, c, g, rfl, ho, hK, hF, hc, hcut⟩⟩ := ha
  · exact absurd h.err he
  · rw [Int.toNat_natCast, h.lo] at hF hcut
    rw [h.lo] at hK ho hc
    have hd : wd * hi % wd = 0 := Nat.mul_mod_right _ _
    have hmin : ∀ D, Keeps (wd * hi) (fun k => os.getD k 0) D → c ≤ cutES (wd * hi) wd (fun k => es.getD k 0) (fun k => ss.getD k 0) D := fun D hD => by
      have h1 := hF.le hD
      rw [cutES_eq h.w1 hd, ← hc] at h1
      exact h1
    rw [cutES_eq h.w1 hd] at hcut
    exact ⟨hb, M, v, c, rfl, ho, hK, hcut, ⟨⟨_, hK, hcut.symm⟩, hmin⟩⟩
end Go.Proofs.Ytkjcnkkmhkcddaa
/-
  Lands are cloned.
-/
namespace Go.Proofs.Ytkjcnkkmhkcddaa
open Go.RowKit Go.Shelf
open Lim

attribute [local go_sem] Oper.semAt_some

set_option maxRecDepth 20000 in
set_option maxHeartbeats 2000000 in
/-- a land of its own: three rows that share no memory -/
theorem cloneLand_any {B : Nat} {wd : Int} {ov ev sv : Value} {os es ss : List Int} {w : World} (hn : os.length ≤ 1000 ∧ es.length ≤ 1000 ∧ ss.length ≤ 1000) (hB : B ≤ w.heap.size) (hv : RS B w ov os.length (ints os)) (he : RS B w ev es.length (ints es)) (hs : RS B w sv ss.length (ints ss)) :
    Calls Try.prog 25 #[.agg #[.int .i64 wd, ov, ev, sv]] w fun e w' => ∃ v1 v2 v3, e = .returned (.agg #[.int .i64 wd, v1, v2, v3]) ∧ (rwI v1 os.length os).Owned w' w.heap.size ∧ (rwI v2 es.length es).Owned w' w.heap.size ∧ (rwI v3 ss.length ss).Owned w' w.heap.size ∧ [rwI v1 os.length os, rwI v2 es.length es, rwI v3 ss.length ss].Pairwise Row.Apart ∧ Below w.heap.size w w' := by
  have HV := Lib.hid (And.intro hv (And.intro he hs))
  have HC1 : Hid (∀ W, Below w.heap.size w W → Calls Try.prog 36 #[ov] W fun e w' => ∃ v', e = .returned v' ∧ w'.ownsRow W.heap.size 3 1 v' os.length (ints os) ∧ Below W.heap.size W w') := Lib.hid fun W hW => kclone_ints hn.1 (HV.out.1.below (hW.mono hB))
  have HC2 : Hid (∀ W, Below w.heap.size w W → Calls Try.prog 36 #[ev] W fun e w' => ∃ v', e = .returned v' ∧ w'.ownsRow W.heap.size 3 1 v' es.length (ints es) ∧ Below W.heap.size W w') := Lib.hid fun W hW => kclone_ints hn.2.1 (HV.out.2.1.below (hW.mono hB))
  have HC3 : Hid (∀ W, Below w.heap.size w W → Calls Try.prog 36 #[sv] W fun e w' => ∃ v', e = .returned v' ∧ w'.ownsRow W.heap.size 3 1 v' ss.length (ints ss) ∧ Below W.heap.size W w') := Lib.hid fun W hW => kclone_ints hn.2.2 (HV.out.2.2.below (hW.mono hB))
  obtain ⟨oa, oc, rfl, -⟩ := hv
  obtain ⟨ea, ec, rfl, -⟩ := he
  obtain ⟨sa, sc, rfl, -⟩ := hs
  clear hn hB
  have HM : Hid (Mem w w.heap.size [] [] [(w.heap.size + 1, Obj.cells #[.int .i64 0, .slice none 0 0, .slice none 0 0, .slice none 0 0] 44 (0, 0)), (w.heap.size, Obj.cells #[.int .i64 wd, .slice oa os.length oc, .slice ea es.length ec, .slice sa ss.length sc] 44 (0, 0))] ((w.alloc (.cells #[.int .i64 wd, .slice oa os.length oc, .slice ea es.length ec, .slice sa ss.length sc] 44)).alloc (.cells #[.int .i64 0, .slice none 0 0, .slice none 0 0, .slice none 0 0] 44))) := Lib.hid (by
    have h := ((Mem.nil (Below.refl _ w)).lay (.cells #[.int .i64 wd, .slice oa os.length oc, .slice ea es.length ec, .slice sa ss.length sc] 44)).lay (.cells #[.int .i64 0, .slice none 0 0, .slice none 0 0, .slice none 0 0] 44)
    simpa using h)
  go_enter Try.func25, Try.ntmps25
  go_upto_region 1 with (fail)
  generalize (w.alloc (.cells #[.int .i64 wd, .slice oa os.length oc, .slice ea es.length ec, .slice sa ss.length sc] 44)).alloc (.cells #[.int .i64 0, .slice none 0 0, .slice none 0 0, .slice none 0 0] 44) = w1 at HM ⊢
  obtain ⟨q, hq⟩ : ∃ q, q = w.heap.size + 1 := ⟨_, rfl⟩
  obtain ⟨p, hp⟩ : ∃ p, p = w.heap.size := ⟨_, rfl⟩
  have HM0 : Hid (Mem w w.heap.size [] [] [(q, Obj.cells #[.int .i64 0, .slice none 0 0, .slice none 0 0, .slice none 0 0] 44 (0, 0)), (p, Obj.cells #[.int .i64 wd, .slice oa os.length oc, .slice ea es.length ec, .slice sa ss.length sc] 44 (0, 0))] w1.drew) := Lib.hid (by rw [hq, hp]; exact HM.out.drew)
  rw [← hq] at HM ⊢
  rw [← hp] at ⊢
  have hC : (fun W => (W.cell? ⟨p, 0, none⟩ = some (.int .i64 wd) ∧ W.cell? ⟨p, 1, none⟩ = some (.slice oa os.length oc) ∧ W.cell? ⟨p, 2, none⟩ = some (.slice ea es.length ec) ∧ W.cell? ⟨p, 3, none⟩ = some (.slice sa ss.length sc)) ∧ (W.cell? ⟨q, 0, none⟩ = some (.int .i64 0) ∧ W.cell? ⟨q, 1, none⟩ = some (.slice none 0 0) ∧ W.cell? ⟨q, 2, none⟩ = some (.slice none 0 0) ∧ W.cell? ⟨q, 3, none⟩ = some (.slice none 0 0)) ∧ (W.frozen? ⟨q, 0, none⟩ = false ∧ W.frozen? ⟨q, 1, none⟩ = false ∧ W.frozen? ⟨q, 2, none⟩ = false ∧ W.frozen? ⟨q, 3, none⟩ = false)) w1.drew := ⟨HM0.out.box4 (t := 44) (by simp), HM0.out.box4 (t := 44) (by simp), HM0.out.frz4 (a := .int .i64 0) (b := .slice none 0 0) (e := .slice none 0 0) (f := .slice none 0 0) (t := 44) (by simp)⟩
  clear hq hp HM
  refine Lim.regC' (fun W => (W.cell? ⟨p, 0, none⟩ = some (.int .i64 wd) ∧ W.cell? ⟨p, 1, none⟩ = some (.slice oa os.length oc) ∧ W.cell? ⟨p, 2, none⟩ = some (.slice ea es.length ec) ∧ W.cell? ⟨p, 3, none⟩ = some (.slice sa ss.length sc)) ∧ (W.cell? ⟨q, 0, none⟩ = some (.int .i64 0) ∧ W.cell? ⟨q, 1, none⟩ = some (.slice none 0 0) ∧ W.cell? ⟨q, 2, none⟩ = some (.slice none 0 0) ∧ W.cell? ⟨q, 3, none⟩ = some (.slice none 0 0)) ∧ (W.frozen? ⟨q, 0, none⟩ = false ∧ W.frozen? ⟨q, 1, none⟩ = false ∧ W.frozen? ⟨q, 2, none⟩ = false ∧ W.frozen? ⟨q, 3, none⟩ = false)) [12] #[false, false, false, false, false, false, false, false, false, false, false, false, false] (by kernel_rfl) rfl ?_
  refine Lim.stepR 0 (fun _ => trivial) rfl (by kernel_rfl) (fun _ _ _ _ h => h) hC rfl ?_; apply Exists.intro; refine ⟨?_, ?_⟩
  · rintro w ⟨⟨r1, r2, r3, r4⟩, ⟨r5, r6, r7, r8⟩, r9, r10, r11, r12⟩; go_simp; try with_reducible rfl
  simp only [Act.put, List.setIfInBounds_toArray, List.set_cons_succ, List.set_cons_zero]
  refine Lim.stepR 1 (fun _ => trivial) rfl (by kernel_rfl) (fun _ _ _ _ h => h) hC rfl ?_; apply Exists.intro; refine ⟨?_, ?_⟩
  · rintro w ⟨⟨r1, r2, r3, r4⟩, ⟨r5, r6, r7, r8⟩, r9, r10, r11, r12⟩; go_simp; try with_reducible rfl
  simp only [Act.put, List.setIfInBounds_toArray, List.set_cons_succ, List.set_cons_zero]
  refine Lim.stepR 2 (fun _ => trivial) rfl (by kernel_rfl) (fun _ _ _ _ h => h) hC rfl ?_; apply Exists.intro; refine ⟨?_, ?_⟩
  · rintro w ⟨⟨r1, r2, r3, r4⟩, ⟨r5, r6, r7, r8⟩, r9, r10, r11, r12⟩; go_simp; try with_reducible rfl
  simp only [Act.put, List.setIfInBounds_toArray, List.set_cons_succ, List.set_cons_zero]
  refine Lim.stepR 3 (fun _ => trivial) rfl (by kernel_rfl) (fun _ _ _ _ h => h) hC rfl ?_; apply Exists.intro; refine ⟨?_, ?_⟩
  · rintro w ⟨⟨r1, r2, r3, r4⟩, ⟨r5, r6, r7, r8⟩, r9, r10, r11, r12⟩; go_simp; try with_reducible rfl
  simp only [Act.put, List.setIfInBounds_toArray, List.set_cons_succ, List.set_cons_zero]
  refine Lim.stepR 5 (fun _ => trivial) rfl (by kernel_rfl) (fun _ _ _ _ h => h) hC rfl ?_; apply Exists.intro; refine ⟨?_, ?_⟩
  · rintro w ⟨⟨r1, r2, r3, r4⟩, ⟨r5, r6, r7, r8⟩, r9, r10, r11, r12⟩; go_simp; try with_reducible rfl
  simp only [Act.put, List.setIfInBounds_toArray, List.set_cons_succ, List.set_cons_zero]
  refine Lim.stepR 6 (fun _ => trivial) rfl (by kernel_rfl) (fun _ _ _ _ h => h) hC rfl ?_; apply Exists.intro; refine ⟨?_, ?_⟩
  · rintro w ⟨⟨r1, r2, r3, r4⟩, ⟨r5, r6, r7, r8⟩, r9, r10, r11, r12⟩; go_simp; try with_reducible rfl
  simp only [Act.put, List.setIfInBounds_toArray, List.set_cons_succ, List.set_cons_zero]
  refine Lim.stepR 8 (fun _ => trivial) rfl (by kernel_rfl) (fun _ _ _ _ h => h) hC rfl ?_; apply Exists.intro; refine ⟨?_, ?_⟩
  · rintro w ⟨⟨r1, r2, r3, r4⟩, ⟨r5, r6, r7, r8⟩, r9, r10, r11, r12⟩; go_simp; try with_reducible rfl
  simp only [Act.put, List.setIfInBounds_toArray, List.set_cons_succ, List.set_cons_zero]
  refine Lim.stepR 9 (fun _ => trivial) rfl (by kernel_rfl) (fun _ _ _ _ h => h) hC rfl ?_; apply Exists.intro; refine ⟨?_, ?_⟩
  · rintro w ⟨⟨r1, r2, r3, r4⟩, ⟨r5, r6, r7, r8⟩, r9, r10, r11, r12⟩; go_simp; try with_reducible rfl
  simp only [Act.put, List.setIfInBounds_toArray, List.set_cons_succ, List.set_cons_zero]
  refine Lim.stepE 4 (fun _ => trivial) rfl (by kernel_rfl) rfl (fun K hK => ?_)   -- E call
  go_simp
  refine ⟨rfl, (callsIn_wide.2 (HC1.out _ HM0.out.b)).mono ?_⟩
  rintro e w4 ⟨v1, rfl, ho, hb⟩
  have H1 := Lib.hid (HM0.out.addQ hb (r := rwI v1 os.length os) ho)
  obtain ⟨g1, k1, rfl, -⟩ := RS.of_owns ho
  have hC4 : (fun W => (W.cell? ⟨p, 0, none⟩ = some (.int .i64 wd) ∧ W.cell? ⟨p, 1, none⟩ = some (.slice oa os.length oc) ∧ W.cell? ⟨p, 2, none⟩ = some (.slice ea es.length ec) ∧ W.cell? ⟨p, 3, none⟩ = some (.slice sa ss.length sc)) ∧ (W.cell? ⟨q, 0, none⟩ = some (.int .i64 0) ∧ W.cell? ⟨q, 1, none⟩ = some (.slice none 0 0) ∧ W.cell? ⟨q, 2, none⟩ = some (.slice none 0 0) ∧ W.cell? ⟨q, 3, none⟩ = some (.slice none 0 0)) ∧ (W.frozen? ⟨q, 0, none⟩ = false ∧ W.frozen? ⟨q, 1, none⟩ = false ∧ W.frozen? ⟨q, 2, none⟩ = false ∧ W.frozen? ⟨q, 3, none⟩ = false)) w4 := ⟨H1.out.box4 (t := 44) (by simp), H1.out.box4 (t := 44) (by simp), H1.out.frz4 (a := .int .i64 0) (b := .slice none 0 0) (e := .slice none 0 0) (f := .slice none 0 0) (t := 44) (by simp)⟩
  refine hK _ _ hC4 ?_
  clear hb ho
  simp only [Act.put, List.setIfInBounds_toArray, List.set_cons_succ, List.set_cons_zero]
  refine Lim.stepE 7 (fun _ => trivial) rfl (by kernel_rfl) rfl (fun K hK => ?_)   -- E call
  go_simp
  refine ⟨rfl, (callsIn_wide.2 (HC2.out _ H1.out.b)).mono ?_⟩
  rintro e w5 ⟨v2, rfl, ho, hb⟩
  have H2 := Lib.hid (H1.out.addQ hb (r := rwI v2 es.length es) ho)
  obtain ⟨g2, k2, rfl, -⟩ := RS.of_owns ho
  have hC7 : (fun W => (W.cell? ⟨p, 0, none⟩ = some (.int .i64 wd) ∧ W.cell? ⟨p, 1, none⟩ = some (.slice oa os.length oc) ∧ W.cell? ⟨p, 2, none⟩ = some (.slice ea es.length ec) ∧ W.cell? ⟨p, 3, none⟩ = some (.slice sa ss.length sc)) ∧ (W.cell? ⟨q, 0, none⟩ = some (.int .i64 0) ∧ W.cell? ⟨q, 1, none⟩ = some (.slice none 0 0) ∧ W.cell? ⟨q, 2, none⟩ = some (.slice none 0 0) ∧ W.cell? ⟨q, 3, none⟩ = some (.slice none 0 0)) ∧ (W.frozen? ⟨q, 0, none⟩ = false ∧ W.frozen? ⟨q, 1, none⟩ = false ∧ W.frozen? ⟨q, 2, none⟩ = false ∧ W.frozen? ⟨q, 3, none⟩ = false)) w5 := ⟨H2.out.box4 (t := 44) (by simp), H2.out.box4 (t := 44) (by simp), H2.out.frz4 (a := .int .i64 0) (b := .slice none 0 0) (e := .slice none 0 0) (f := .slice none 0 0) (t := 44) (by simp)⟩
  refine hK _ _ hC7 ?_
  clear hb ho
  simp only [Act.put, List.setIfInBounds_toArray, List.set_cons_succ, List.set_cons_zero]
  refine Lim.stepE 10 (fun _ => trivial) rfl (by kernel_rfl) rfl (fun K hK => ?_)   -- E call
  go_simp
  refine ⟨rfl, (callsIn_wide.2 (HC3.out _ H2.out.b)).mono ?_⟩
  rintro e w6 ⟨v3, rfl, ho, hb⟩
  have H3 := Lib.hid (H2.out.addQ hb (r := rwI v3 ss.length ss) ho)
  obtain ⟨g3, k3, rfl, -⟩ := RS.of_owns ho
  have hC10 : (fun W => (W.cell? ⟨p, 0, none⟩ = some (.int .i64 wd) ∧ W.cell? ⟨p, 1, none⟩ = some (.slice oa os.length oc) ∧ W.cell? ⟨p, 2, none⟩ = some (.slice ea es.length ec) ∧ W.cell? ⟨p, 3, none⟩ = some (.slice sa ss.length sc)) ∧ (W.cell? ⟨q, 0, none⟩ = some (.int .i64 0) ∧ W.cell? ⟨q, 1, none⟩ = some (.slice none 0 0) ∧ W.cell? ⟨q, 2, none⟩ = some (.slice none 0 0) ∧ W.cell? ⟨q, 3, none⟩ = some (.slice none 0 0)) ∧ (W.frozen? ⟨q, 0, none⟩ = false ∧ W.frozen? ⟨q, 1, none⟩ = false ∧ W.frozen? ⟨q, 2, none⟩ = false ∧ W.frozen? ⟨q, 3, none⟩ = false)) w6 := ⟨H3.out.box4 (t := 44) (by simp), H3.out.box4 (t := 44) (by simp), H3.out.frz4 (a := .int .i64 0) (b := .slice none 0 0) (e := .slice none 0 0) (f := .slice none 0 0) (t := 44) (by simp)⟩
  refine hK _ _ hC10 ?_
  clear hb ho
  simp only [Act.put, List.setIfInBounds_toArray, List.set_cons_succ, List.set_cons_zero]
  refine Lim.stepR 11 (fun _ => trivial) rfl (by kernel_rfl) (fun _ _ _ _ h => h) hC10 rfl ?_; apply Exists.intro; refine ⟨?_, ?_⟩
  · rintro w ⟨⟨r1, r2, r3, r4⟩, ⟨r5, r6, r7, r8⟩, r9, r10, r11, r12⟩; go_simp; try with_reducible rfl
  simp only [Act.put, List.setIfInBounds_toArray, List.set_cons_succ, List.set_cons_zero]
  refine Lim.stepX 12 (fun _ => trivial) rfl (by kernel_rfl) rfl rfl (fun K hK => ?_)   -- E store
  obtain ⟨c0, c1, c2⟩ := hC10
  obtain ⟨d0, d1, d2, d3⟩ := c1
  obtain ⟨d4, d5, d6, d7⟩ := c2
  go_simp
  have HE := Lib.hid (H3.out.put4 (X1 := []) (.int .i64 wd) (.slice g1 os.length k1) (.slice g2 es.length k2) (.slice g3 ss.length k3))
  have hE : True := trivial
  refine hK _ _ ?_
  clear d0 d1 d2 d3 d4 d5 d6 d7 c0
  simp only [Act.put, List.setIfInBounds_toArray, List.set_cons_succ, List.set_cons_zero]
  refine Lim.segC (fun _ => True) [] ?_
  refine Lim.stepD (by kernel_rfl) ?_
  clear hC
  go_wp2_with fail
  obtain ⟨b0, b1, b2, b3⟩ := HE.out.box4 (q := q) (a := .int .i64 wd) (b := .slice g1 os.length k1) (e := .slice g2 es.length k2) (f := .slice g3 ss.length k3) (t := 44) (by simp)
  refine bodyPost_ret (v := .agg #[.int .i64 wd, .slice g1 os.length k1, .slice g2 es.length k2, .slice g3 ss.length k3]) (results_mid rfl _ _ q 0 [_, _, _, _] _ rfl (four_range b0 b1 b2 b3) Try.underlying44 rfl (show (Try.prog.info? 44).map (·.size) = some 4 by kernel_rfl)) rfl ?_
  have hq := HE.out.qq
  have h1 := List.pairwise_cons.1 hq
  exact ⟨_, _, _, rfl, HE.out.q _ (by simp), HE.out.q _ (by simp), HE.out.q _ (by simp), ⟨⟨((List.pairwise_cons.1 h1.2).1 _ (by simp)).symm, (h1.1 _ (by simp)).symm⟩, (h1.1 _ (by simp)).symm⟩, HE.out.b⟩
end Go.Proofs.Ytkjcnkkmhkcddaa
/-
  Lands of a deck: the contract of Landed.
-/
namespace Go.Proofs.Ytkjcnkkmhkcddaa
open Go.RowKit Go.Shelf
open Lim

attribute [local go_sem] Oper.semAt_some

/-- Landed's memory: its result at q6, the land at q7, three rows; only the deck is changed of what was there -/
structure LnM (w : World) (d c q6 q7 : Nat) (wd : Int) (v1 v2 v3 : Value) (t : Nat) (os es ss : List Int) (W : World) : Prop where
  dk : Deck W d c
  sp : Sep (fun x => x = d) w W
  me : Mem W w.heap.size [] [rwI v1 t os, rwI v2 t es, rwI v3 t ss] [(q7, .cells #[.int .i64 wd, v1, v2, v3] 44 (0, 0)), (q6, .cells #[.int .i64 0, .slice none 0 0, .slice none 0 0, .slice none 0 0] 44 (0, 0))] W
  lt : d < w.heap.size
theorem Deck.under {W W' : World} {d n S : Nat} (h : Deck W d n) (hb : Below S W W') (hS : d < S) : Deck W' d n := by
  obtain ⟨cv, l, k, s, h, hk⟩ := h
  have he : W'.heap[d]? = W.heap[d]? := hb.block d hS
  have hb' : Below d W W' := ⟨hb.os, hb.tape, hb.output, hb.size, fun k hk => hb.block k (by omega)⟩
  exact ⟨cv, l, k, s, ⟨⟨(World.cell?_of_block he).trans h.c.1, (World.cell?_of_block he).trans h.c.2.1, (World.cell?_of_block he).trans h.c.2.2⟩, ⟨(World.frozen?_of_block he).trans h.f.1, (World.frozen?_of_block he).trans h.f.2⟩, h.r.below hb', h.u, h.k0, h.s0⟩, hk⟩
section
variable {w W W' : World} {d c q6 q7 t : Nat} {wd : Int} {v1 v2 v3 : Value} {os es ss : List Int}
theorem LnM.dealt (h : LnM w d c q6 q7 wd v1 v2 v3 t os es ss W) (hd : Dealt d c W W') : LnM w d (c + 1) q6 q7 wd v1 v2 v3 t os es ss W' :=
  ⟨hd.1, h.sp.from (Sep.of_grown hd.2.1) (fun k _ e => by cases e; rfl), h.me.dealt hd h.lt, h.lt⟩
theorem LnM.below (h : LnM w d c q6 q7 wd v1 v2 v3 t os es ss W) (hb : Below W.heap.size W W') : LnM w d c q6 q7 wd v1 v2 v3 t os es ss W' :=
  ⟨h.dk.under hb (by have := h.sp.size; have := h.lt; omega), h.sp.from (T' := fun _ => False) (Sep.of_below hb) (fun _ _ e => e.elim), h.me.rebase (fun k _ h2 => hb.block k h2) hb.size, h.lt⟩
/-- what a region has made of it -/
theorem LnM.next (h : LnM w d c q6 q7 wd v1 v2 v3 t os es ss W) {u1 u2 u3 : Value} {n : Nat} {os' es' ss' : List Int} {Q : List Row} (H : Mem W w.heap.size [] ([rwI u1 n os', rwI u2 n es', rwI u3 n ss'] ++ Q) [(q7, .cells #[.int .i64 wd, u1, u2, u3] 44 (0, 0)), (q6, .cells #[.int .i64 0, .slice none 0 0, .slice none 0 0, .slice none 0 0] 44 (0, 0))] W') : LnM w d c q6 q7 wd u1 u2 u3 n os' es' ss' W' :=
  ⟨h.dk.under H.b h.lt, h.sp.from (T' := fun k => w.heap.size ≤ k) ⟨H.b.os, H.b.tape, H.b.output, H.b.size, fun k _ h2 => H.b.block k (by omega)⟩ (fun k h1 h2 => by omega), (H.less (fun _ h => h) (List.sublist_append_left _ _) (List.Sublist.refl _)).rebase (fun _ _ _ => rfl) (Nat.le_refl _), h.lt⟩
end
/-- the plots that are made so far -/
structure PlL (wd n t : Nat) (os es ss : List Int) : Prop where
  lo : os.length = t
  le : es.length = t
  ls : ss.length = t
  o : ∀ k, k < t → -1 ≤ os.getD k 0 ∧ os.getD k 0 ≤ 1
  e : ∀ k, k < t → 0 ≤ es.getD k 0 ∧ es.getD k 0 ≤ 11
  s : ∀ k, k < t → 0 ≤ ss.getD k 0 ∧ ss.getD k 0 ≤ 11
  ee : ∀ k, k < t → k % wd + 1 = wd → es.getD k 0 = 0
  se : ∀ k, k < t → n ≤ k + wd → ss.getD k 0 = 0
theorem getD_more (l : List Int) (x : Int) {t : Nat} (hl : l.length = t) (k : Nat) (hk : k < t + 1) : (l ++ [x]).getD k 0 = if k = t then x else l.getD k 0 := by
  rw [List.getD_eq_getElem?_getD, List.getD_eq_getElem?_getD]
  by_cases e : k = t
  · rw [if_pos e, e, ← hl]; simp
  · rw [if_neg e, List.getElem?_append_left (by omega)]
theorem PlL.more {wd n t : Nat} {os es ss : List Int} (h : PlL wd n t os es ss) {o e s : Int} (ho : -1 ≤ o ∧ o ≤ 1) (he : 0 ≤ e ∧ e ≤ 11 ∧ (t % wd + 1 = wd → e = 0)) (hs : 0 ≤ s ∧ s ≤ 11 ∧ (n ≤ t + wd → s = 0)) : PlL wd n (t + 1) (os ++ [o]) (es ++ [e]) (ss ++ [s]) := by
  refine ⟨by simp [h.lo], by simp [h.le], by simp [h.ls], fun k hk => ?_, fun k hk => ?_, fun k hk => ?_, fun k hk => ?_, fun k hk => ?_⟩
  · rw [getD_more os o h.lo k hk]; split
    · exact ho
    · exact h.o k (by omega)
  · rw [getD_more es e h.le k hk]; split
    · exact ⟨he.1, he.2.1⟩
    · exact h.e k (by omega)
  · rw [getD_more ss s h.ls k hk]; split
    · exact ⟨hs.1, hs.2.1⟩
    · exact h.s k (by omega)
  · rw [getD_more es e h.le k hk]; split
    · rename_i e; rw [e]; exact he.2.2
    · exact h.ee k (by omega)
  · rw [getD_more ss s h.ls k hk]; split
    · rename_i e; rw [e]; exact hs.2.2
    · exact h.se k (by omega)
theorem getD_setI (l : List Int) (i j : Nat) (v : Int) : (l.set i v).getD j 0 = if i = j ∧ j < l.length then v else l.getD j 0 := by
  rw [List.getD_eq_getElem?_getD, List.getD_eq_getElem?_getD, List.getElem?_set]
  by_cases h : i = j
  · subst h
    by_cases h2 : i < l.length
    · simp [h2]
    · simp [h2]
  · simp [h]
/-- the first plot and the last one are of a state each -/
theorem PlL.land {wd hi : Nat} {os es ss : List Int} (hw : 1 ≤ wd) (hh : 2 ≤ hi) (hn : wd * hi ≤ 100) (h : PlL wd (wd * hi) (wd * hi) os es ss) : LandG wd hi ((os.set 0 0).set (wd * hi - 1) 1) es ss ∧ ((os.set 0 0).set (wd * hi - 1) 1).getD 0 0 = 0 ∧ ((os.set 0 0).set (wd * hi - 1) 1).getD (wd * hi - 1) 0 = 1 := by
  have h2 : 1 * 2 ≤ wd * hi := Nat.mul_le_mul hw hh
  have g : ∀ k, k < wd * hi → ((os.set 0 0).set (wd * hi - 1) 1).getD k 0 = if k = wd * hi - 1 then 1 else if k = 0 then 0 else os.getD k 0 := fun k hk => by
    rw [getD_setI, getD_setI, List.length_set, h.lo]
    by_cases e1 : k = wd * hi - 1
    · rw [if_pos ⟨e1.symm, hk⟩, if_pos e1]
    · rw [if_neg (fun h => e1 h.1.symm), if_neg e1]
      by_cases e2 : k = 0
      · rw [if_pos ⟨e2.symm, hk⟩, if_pos e2]
      · rw [if_neg (fun h => e2 h.1.symm), if_neg e2]
  have ga : ((os.set 0 0).set (wd * hi - 1) 1).getD 0 0 = 0 := by rw [g 0 (by omega), if_neg (by omega), if_pos rfl]
  have gb : ((os.set 0 0).set (wd * hi - 1) 1).getD (wd * hi - 1) 0 = 1 := by rw [g _ (by omega), if_pos rfl]
  refine ⟨⟨hw, by omega, hn, by simp [h.lo], h.le, h.ls, fun k hk => ?_, fun k hk => ?_, fun k hk => ?_, h.ee, h.se, ⟨0, by omega, ga⟩, ⟨wd * hi - 1, by omega, gb⟩⟩, ga, gb⟩
  · rw [g k hk]; split
    · omega
    · split
      · omega
      · exact h.o k hk
  · have := h.e k hk; omega
  · have := h.s k hk; omega
/-- what Landed answers -/
def LandedAns (C R d : Nat) (w : World) (e : Ending) (w' : World) : Prop :=
  ∃ (wd hi : Nat) (v1 v2 v3 : Value) (os es ss : List Int), e = .returned (.agg #[.int .i64 wd, v1, v2, v3]) ∧ wd ≤ C ∧ 2 ≤ hi ∧ hi ≤ R ∧ LandG wd hi os es ss ∧ ((∀ k, k < wd * hi → es.getD k 0 ≤ 11 ∧ ss.getD k 0 ≤ 11) ∧ os.getD 0 0 = 0 ∧ os.getD (wd * hi - 1) 0 = 1) ∧
    (rwI v1 (wd * hi) os).Owned w' w.heap.size ∧ (rwI v2 (wd * hi) es).Owned w' w.heap.size ∧ (rwI v3 (wd * hi) ss).Owned w' w.heap.size ∧ Sep (fun x => x = d) w w'
set_option maxRecDepth 20000 in
set_option maxHeartbeats 8000000 in
theorem landed_any {C R d c : Nat} {w : World} (hC : 1 ≤ C ∧ C ≤ 10) (hR : 2 ≤ R ∧ R ≤ 10) (hd : Deck w d c) (hc : c < 1000) :
    Calls Try.prog 21 #[.pointer (some ⟨d, 0, none⟩), .int .i64 C, .int .i64 R] w fun e w' => LandedAns C R d w e w' := by
  obtain ⟨i0, hi, hz0, hz1, hz2⟩ := info_parts Try.infoInt
  have HF := Lib.hid (And.intro hi (And.intro hz0 (And.intro hz1 hz2)))
  have HCR := Lib.hid (And.intro hC (And.intro hR (And.intro hd.lt hc)))
  have HM1 : Hid (Mem (w.alloc (.cells #[.int .i64 0, .slice none 0 0, .slice none 0 0, .slice none 0 0] 44)) w.heap.size [] [] [(w.heap.size, .cells #[.int .i64 0, .slice none 0 0, .slice none 0 0, .slice none 0 0] 44 (0, 0))] (w.alloc (.cells #[.int .i64 0, .slice none 0 0, .slice none 0 0, .slice none 0 0] 44)) ∧ Deck (w.alloc (.cells #[.int .i64 0, .slice none 0 0, .slice none 0 0, .slice none 0 0] 44)) d c ∧ Sep (fun x => x = d) w (w.alloc (.cells #[.int .i64 0, .slice none 0 0, .slice none 0 0, .slice none 0 0] 44))) := Lib.hid (by
    have hb : Below w.heap.size w (w.alloc (.cells #[.int .i64 0, .slice none 0 0, .slice none 0 0, .slice none 0 0] 44)) := (Below.refl _ w).alloc (Nat.le_refl _) _
    exact ⟨((Mem.nil (Below.refl _ w)).lay _).rebase (fun _ _ _ => rfl) (Nat.le_refl _), hd.under hb hd.lt, Sep.of_below hb⟩)
  have CB1 := Lib.hid (deck_between (a := 1) (b := C) HM1.out.2.1 (by omega) (by omega) (by omega) (by omega))
  clear hi hz0 hz1 hz2 hd hc hC hR
  go_enter Try.func21, Try.ntmps21
  refine wp_noPanic ?_
  go_wp2_with fail
  generalize w.alloc (.cells #[.int .i64 0, .slice none 0 0, .slice none 0 0, .slice none 0 0] 44) = w1 at HM1 CB1 ⊢
  refine CB1.out.mono ?_
  rintro e w2 ⟨wd, rfl, hwd, hdl⟩
  have HM2 : Hid (Mem w2 w.heap.size [] [] [(w.heap.size, .cells #[.int .i64 0, .slice none 0 0, .slice none 0 0, .slice none 0 0] 44 (0, 0))] w2 ∧ Deck w2 d (c + 1) ∧ Sep (fun x => x = d) w w2) := Lib.hid ⟨HM1.out.1.dealt hdl HCR.out.2.2.1, hdl.1, HM1.out.2.2.from (Sep.of_grown hdl.2.1) (fun k _ e => by cases e; rfl)⟩
  obtain ⟨wd, rfl⟩ : ∃ n : Nat, wd = n := ⟨wd.toNat, by omega⟩
  have HWD : Hid (1 ≤ wd ∧ wd ≤ C) := Lib.hid (by omega)
  clear hdl CB1 HM1 hwd
  go_upto_region 2 with (fail)
  have HM3 : Hid (LnM w d (c + 1) w.heap.size w2.heap.size wd (.slice none 0 0) (.slice none 0 0) (.slice none 0 0) 0 [] [] [] (w2.alloc (.cells #[.int .i64 wd, .slice none 0 0, .slice none 0 0, .slice none 0 0] 44)).drew) := Lib.hid (by
    have hb : Below w2.heap.size w2 (w2.alloc (.cells #[.int .i64 wd, .slice none 0 0, .slice none 0 0, .slice none 0 0] 44)).drew := ((Below.refl _ w2).alloc (Nat.le_refl _) _).drew
    have h1 := HM2.out.2.2.size
    have h2 := HCR.out.2.2.1
    exact ⟨HM2.out.2.1.under hb (by omega), HM2.out.2.2.from (T' := fun _ => False) (Sep.of_below hb) (fun _ _ e => e.elim), ((((HM2.out.1.lay (.cells #[.int .i64 wd, .slice none 0 0, .slice none 0 0, .slice none 0 0] 44)).nilQ 3 1).nilQ 3 1).nilQ 3 1).drew.rebase (fun _ _ _ => rfl) (Nat.le_refl _), h2⟩)
  generalize w2.alloc (.cells #[.int .i64 wd, .slice none 0 0, .slice none 0 0, .slice none 0 0] 44) = w3 at HM3 ⊢
  obtain ⟨q6, hq6⟩ : ∃ q, q = w.heap.size := ⟨_, rfl⟩
  obtain ⟨q7, hq7⟩ : ∃ q, q = w2.heap.size := ⟨_, rfl⟩
  have HQ6 := Lib.hid hq6
  have HM3 : Hid (LnM w d (c + 1) q6 q7 wd (.slice none 0 0) (.slice none 0 0) (.slice none 0 0) 0 [] [] [] w3.drew) := by rw [hq6, hq7]; exact HM3
  rw [← hq7]
  rw [← hq6]
  clear hq6 hq7 HM2
  have CB2 := Lib.hid (deck_between (a := 2) (b := R) HM3.out.dk (by have := HCR.out; omega) (by have := HCR.out; omega) (by have := HCR.out; omega) (by have := HCR.out; omega))
  have hC : (fun W => W.cell? ⟨q7, 0, none⟩ = some (.int .i64 wd)) w3.drew := (HM3.out.me.box4 (t := 44) (List.mem_cons_self)).1
  refine Lim.regC' (fun W => W.cell? ⟨q7, 0, none⟩ = some (.int .i64 wd)) [] #[false, false, false, false, false, false, false] (by kernel_rfl) rfl ?_
  refine Lim.stepR 0 (fun _ => trivial) rfl (by kernel_rfl) (fun _ _ _ _ h => h) hC rfl ?_; apply Exists.intro; refine ⟨?_, ?_⟩
  · rintro w r1; go_simp; try with_reducible rfl
  simp only [Act.put, List.setIfInBounds_toArray, List.set_cons_succ, List.set_cons_zero]
  refine Lim.stepR 1 (fun _ => trivial) rfl (by kernel_rfl) (fun _ _ _ _ h => h) hC rfl ?_; apply Exists.intro; refine ⟨?_, ?_⟩
  · rintro w r1; go_simp; try with_reducible rfl
  simp only [Act.put, List.setIfInBounds_toArray, List.set_cons_succ, List.set_cons_zero]
  refine Lim.stepR 2 (fun _ => trivial) rfl (by kernel_rfl) (fun _ _ _ _ h => h) hC rfl ?_; apply Exists.intro; refine ⟨?_, ?_⟩
  · rintro w r1; go_simp; try with_reducible rfl
  simp only [Act.put, List.setIfInBounds_toArray, List.set_cons_succ, List.set_cons_zero]
  refine Lim.stepR 3 (fun _ => trivial) rfl (by kernel_rfl) (fun _ _ _ _ h => h) hC rfl ?_; apply Exists.intro; refine ⟨?_, ?_⟩
  · rintro w r1; go_simp; try with_reducible rfl
  simp only [Act.put, List.setIfInBounds_toArray, List.set_cons_succ, List.set_cons_zero]
  refine Lim.stepE 4 (fun _ => trivial) rfl (by kernel_rfl) rfl (fun K hK => ?_)   -- E call
  go_simp
  refine ⟨rfl, (callsIn_wide.2 CB2.out).mono ?_⟩
  rintro e w4 ⟨hi, rfl, hhi, hdl⟩
  have HM4 := Lib.hid (HM3.out.dealt hdl)
  have hC4 : (fun W => W.cell? ⟨q7, 0, none⟩ = some (.int .i64 wd)) w4 := (HM4.out.me.box4 (t := 44) (List.mem_cons_self)).1
  obtain ⟨hi, rfl⟩ : ∃ n : Nat, hi = n := ⟨hi.toNat, by omega⟩
  have HHI : Hid (2 ≤ hi ∧ hi ≤ R) := Lib.hid (by omega)
  obtain ⟨n, hn⟩ : ∃ n, n = wd * hi := ⟨_, rfl⟩
  have hn100 : n ≤ 100 := by have := HHI.out; have := HWD.out; have := HCR.out; rw [hn]; exact Nat.mul_le_mul (n₁ := wd) (n₂ := 10) (m₁ := hi) (m₂ := 10) (by omega) (by omega)
  have hmul : (wd : Int) * (hi : Int) = (n : Int) := by rw [hn]; exact (Int.natCast_mul wd hi).symm
  have hw1 : IntKind.i64.wrap ((wd : Int) * (hi : Int)) = (n : Int) := by rw [hmul]; exact IntWalk.i64_in _ (by omega)
  have HN := Lib.hid hn
  refine hK _ _ hC4 ?_
  clear hdl hhi hn hmul
  simp only [Act.put, List.setIfInBounds_toArray, List.set_cons_succ, List.set_cons_zero]
  refine Lim.stepR 5 (fun _ => trivial) rfl (by kernel_rfl) (fun _ _ _ _ h => h) hC4 rfl ?_; apply Exists.intro; refine ⟨?_, ?_⟩
  · rintro w r1; go_simp; try with_reducible rfl
  simp only [Act.put, List.setIfInBounds_toArray, List.set_cons_succ, List.set_cons_zero]
  refine Lim.stepR 6 (fun _ => trivial) rfl (by kernel_rfl) (fun _ _ _ _ h => h) hC4 rfl ?_; apply Exists.intro; refine ⟨?_, ?_⟩
  · rintro w r1; go_simp; try with_reducible rfl
  simp only [Act.put, List.setIfInBounds_toArray, List.set_cons_succ, List.set_cons_zero]
  refine Lim.stepD (by kernel_rfl) ?_
  clear hC hC4 CB2
  go_wp2_with fail
  clear hw1
  go_loopw [24] (fun iv W => ∃ t : Nat, t ≤ n ∧ iv = .int .i64 t ∧ ∃ (v1 v2 v3 : Value) (os es ss : List Int) (c' : Nat), Hid (PlL wd n t os es ss ∧ c' ≤ c + 2 + 4 * t) ∧ Hid (LnM w d c' q6 q7 wd v1 v2 v3 t os es ss W)) (fun iv _ => n - (intOf iv).toNat)
  case atStart => exact ⟨0, Nat.zero_le _, rfl, _, _, _, [], [], [], _, Lib.hid ⟨⟨rfl, rfl, rfl, fun k hk => absurd hk (Nat.not_lt_zero _), fun k hk => absurd hk (Nat.not_lt_zero _), fun k hk => absurd hk (Nat.not_lt_zero _), fun k hk => absurd hk (Nat.not_lt_zero _), fun k hk => absurd hk (Nat.not_lt_zero _)⟩, Nat.le_refl _⟩, HM4⟩
  case round =>
    clear HM4
    obtain ⟨t, ht, rfl, v1, v2, v3, os, es, ss, c', HP, HM⟩ := hrel
    by_cases hlt : t < n
    · have ht64 : (t : Int) < n := by omega
      have HCB : Hid (c' + 10 ≤ 10000) := Lib.hid (by have := HP.out.2; have := HCR.out; omega)
      have HT : Hid (t < 100) := Lib.hid (by omega)
      have CC := Lib.hid (deck_coin (n := 4) HM.out.dk (by have := HCB.out; omega))
      go_wp2_with fail
      refine CC.out.mono ?_
      rintro e w6 ⟨bc, rfl, hdl⟩
      have HM6 := Lib.hid (HM.out.dealt hdl)
      clear hdl CC HM
      go_upto_if 28 with (fail)
      go_cut [10] from 28 to 30 (fun s10 wc => ∃ (o : Int) (c1 : Nat), s10 = .int .i64 o ∧ Hid ((-1 ≤ o ∧ o ≤ 1) ∧ c1 ≤ c' + 2) ∧ Hid (LnM w d c1 q6 q7 wd v1 v2 v3 t os es ss wc))
      case first =>
        cases bc with
        | true =>
          have CD := Lib.hid (deck_draw (n := 2) HM6.out.dk (by have := HCB.out; omega))
          go_wp2_with fail
          refine CD.out.mono ?_
          rintro e w7 ⟨x, rfl, hx, hdl⟩
          have HM7 := Lib.hid (HM6.out.dealt hdl)
          have HX : Hid (0 ≤ x ∧ x ≤ 1) := Lib.hid ⟨hx.2.1, by have := hx.2.2 (by omega); omega⟩
          clear hdl hx CD
          go_wp2
          go_meet
          case rel => exact ⟨_, _, rfl, Lib.hid ⟨by have := HX.out; omega, Nat.le_refl _⟩, HM7⟩
        | false =>
          go_wp2
          go_meet
          case rel => exact ⟨_, _, rfl, Lib.hid ⟨by omega, by omega⟩, HM6⟩
      case rest =>
        obtain ⟨o, c1, rfl, HO1, HM7⟩ := hcut
        clear HM6
        have CD := Lib.hid (deck_draw (n := 12) HM7.out.dk (by have := HCB.out; have := HO1.out; omega))
        go_wp2_with fail
        refine CD.out.mono ?_
        rintro e w7 ⟨x, rfl, hx, hdl⟩
        have HM8 := Lib.hid (HM7.out.dealt hdl)
        have HX : Hid (0 ≤ x ∧ x ≤ 11) := Lib.hid ⟨hx.2.1, by have := hx.2.2 (by omega); omega⟩
        clear hdl hx CD HM7
        have CD := Lib.hid (deck_draw (n := 12) HM8.out.dk (by have := HCB.out; have := HO1.out; omega))
        go_wp2_with fail
        refine CD.out.mono ?_
        rintro e w8 ⟨y, rfl, hy, hdl⟩
        have HY : Hid (0 ≤ y ∧ y ≤ 11) := Lib.hid ⟨hy.2.1, by have := hy.2.2 (by omega); omega⟩
        have HO : Hid ((-1 ≤ o ∧ o ≤ 1) ∧ c1 + 2 ≤ c' + 4) := Lib.hid ⟨HO1.out.1, by have := HO1.out.2; omega⟩
        replace HM8 : Hid (LnM w d (c1 + 1 + 1) q6 q7 wd v1 v2 v3 t os es ss w8.drew) := Lib.hid ((HM8.out.dealt hdl).below (Below.refl _ _).drew)
        clear hdl hy CD HO1
        obtain ⟨cx, hx⟩ : ∃ x, x = t % wd := ⟨_, rfl⟩
        have e5 : (t : Int).tmod (wd : Int) = (cx : Int) := by rw [hx]; exact (Int.ofNat_tmod t wd).symm
        have hxw : cx < wd := by rw [hx]; exact Nat.mod_lt _ (by have := HWD.out; omega)
        have hwn : ¬ wd = 0 := by have := HWD.out; omega
        have hwd10 : wd ≤ 10 := by have := HWD.out; have := HCR.out; omega
        have hz1 : IntKind.i64.wrap ((wd : Int) - 1) = (wd : Int) - 1 := IntWalk.i64_in _ (by omega)
        have HCX := Lib.hid hx
        clear hx
        have hC10 : (fun W => W.cell? ⟨q7, 0, none⟩ = some (.int .i64 wd)) w8.drew := (HM8.out.me.box4 (t := 44) (List.mem_cons_self)).1
        go_upto_region 10 with (fail)
        refine Lim.regC' (fun W => W.cell? ⟨q7, 0, none⟩ = some (.int .i64 wd)) [] #[false, false, false, false, false, false, false, false] (by kernel_rfl) rfl ?_
        refine Lim.stepR 0 (fun _ => trivial) rfl (by kernel_rfl) (fun _ _ _ _ h => h) hC10 rfl ?_; apply Exists.intro; refine ⟨?_, ?_⟩
        · rintro w r1; go_simp; try with_reducible rfl
        simp only [Act.put, List.setIfInBounds_toArray, List.set_cons_succ, List.set_cons_zero]
        refine Lim.stepR 1 (fun _ => trivial) rfl (by kernel_rfl) (fun _ _ _ _ h => h) hC10 rfl ?_; apply Exists.intro; refine ⟨?_, ?_⟩
        · rintro w r1; go_simp; try with_reducible rfl
        simp only [Act.put, List.setIfInBounds_toArray, List.set_cons_succ, List.set_cons_zero]
        refine Lim.stepR 2 (fun _ => trivial) rfl (by kernel_rfl) (fun _ _ _ _ h => h) hC10 rfl ?_; apply Exists.intro; refine ⟨?_, ?_⟩
        · rintro w r1; go_simp; try with_reducible rfl
        simp only [Act.put, List.setIfInBounds_toArray, List.set_cons_succ, List.set_cons_zero]
        refine Lim.stepR 3 (fun _ => trivial) rfl (by kernel_rfl) (fun _ _ _ _ h => h) hC10 rfl ?_; apply Exists.intro; refine ⟨?_, ?_⟩
        · rintro w r1; go_simp; try with_reducible rfl
        simp only [Act.put, List.setIfInBounds_toArray, List.set_cons_succ, List.set_cons_zero]
        refine Lim.stepR 4 (fun _ => trivial) rfl (by kernel_rfl) (fun _ _ _ _ h => h) hC10 rfl ?_; apply Exists.intro; refine ⟨?_, ?_⟩
        · rintro w r1; go_simp; try with_reducible rfl
        simp only [Act.put, List.setIfInBounds_toArray, List.set_cons_succ, List.set_cons_zero]
        refine Lim.stepR 5 (fun _ => trivial) rfl (by kernel_rfl) (fun _ _ _ _ h => h) hC10 rfl ?_; apply Exists.intro; refine ⟨?_, ?_⟩
        · rintro w r1; go_simp; try with_reducible rfl
        simp only [Act.put, List.setIfInBounds_toArray, List.set_cons_succ, List.set_cons_zero]
        refine Lim.stepR 6 (fun _ => trivial) rfl (by kernel_rfl) (fun _ _ _ _ h => h) hC10 rfl ?_; apply Exists.intro; refine ⟨?_, ?_⟩
        · rintro w r1; go_simp; try with_reducible rfl
        simp only [Act.put, List.setIfInBounds_toArray, List.set_cons_succ, List.set_cons_zero]
        refine Lim.stepR 7 (fun _ => trivial) rfl (by kernel_rfl) (fun _ _ _ _ h => h) hC10 rfl ?_; apply Exists.intro; refine ⟨?_, ?_⟩
        · rintro w r1; go_simp; try with_reducible rfl
        simp only [Act.put, List.setIfInBounds_toArray, List.set_cons_succ, List.set_cons_zero]
        refine Lim.stepD (by kernel_rfl) ?_
        clear hC10 e5 hz1
        generalize w8.drew = w9 at HM8 ⊢
        go_upto_if 42 with (fail)
        go_cut [11] from 42 to 42 (fun s11 wc => ∃ (ea : Int), s11 = .int .i64 ea ∧ Hid (0 ≤ ea ∧ ea ≤ 11 ∧ (t % wd + 1 = wd → ea = 0)) ∧ Hid (LnM w d (c1 + 1 + 1) q6 q7 wd v1 v2 v3 t os es ss wc))
        case first =>
          by_cases e : cx + 1 = wd
          · have g1 : ((cx : Int) == (wd : Int) - 1) = true := by simp; omega
            clear e
            go_wp2
            go_meet
            case rel => exact ⟨0, rfl, Lib.hid ⟨by omega, by omega, fun _ => rfl⟩, HM8⟩
          · have g1 : ((cx : Int) == (wd : Int) - 1) = false := by rw [beq_eq_false_iff_ne]; omega
            have HE := Lib.hid e
            clear e
            go_wp2
            go_meet
            case rel => exact ⟨x, rfl, Lib.hid ⟨HX.out.1, HX.out.2, fun h => absurd (by rw [HCX.out]; exact h) HE.out⟩, HM8⟩
        case rest =>
          obtain ⟨ea, rfl, HEA, HM9⟩ := hcut
          clear HM8 HX
          have hw2 : IntKind.i64.wrap ((t : Int) + (wd : Int)) = (t : Int) + (wd : Int) := IntWalk.i64_in _ (by have := HT.out; omega)
          obtain ⟨b0, -⟩ := HM9.out.me.box4 (t := 44) (List.mem_cons_self)
          go_upto_if 48 with (fail)
          obtain ⟨bb, hbb⟩ : ∃ bb, bb = decide ((n : Int) ≤ (t : Int) + (wd : Int)) := ⟨_, rfl⟩
          rw [← hbb]
          have HBB := Lib.hid hbb
          clear hbb
          go_cut [12] from 43 to 48 (fun s12 wc => ∃ (sa : Int), s12 = .int .i64 sa ∧ Hid (0 ≤ sa ∧ sa ≤ 11 ∧ (n ≤ t + wd → sa = 0)) ∧ Hid (LnM w d (c1 + 1 + 1) q6 q7 wd v1 v2 v3 t os es ss wc))
          case first =>
            cases bb with
            | true =>
              go_wp2
              go_meet
              case rel => exact ⟨0, rfl, Lib.hid ⟨by omega, by omega, fun _ => rfl⟩, HM9⟩
            | false =>
              go_wp2
              go_meet
              case rel => exact ⟨y, rfl, Lib.hid ⟨HY.out.1, HY.out.2, fun h => absurd HBB.out (by simp; omega)⟩, HM9⟩
          case rest =>
            obtain ⟨sa, rfl, HSA, HM10⟩ := hcut
            clear HM9 HY b0 hw2
            go_upto_region 14 with (fail)
            have HM8 : Hid (LnM w d (c1 + 1 + 1) q6 q7 wd v1 v2 v3 t os es ss wc.drew) := Lib.hid (HM10.out.below (Below.refl _ _).drew)
            clear HM10
            obtain ⟨b0, b1, b2, b3⟩ := HM8.out.me.box4 (t := 44) (List.mem_cons_self)
            have hC : (fun W => W.cell? ⟨q7, 1, none⟩ = some v1 ∧ W.cell? ⟨q7, 2, none⟩ = some v2 ∧ W.cell? ⟨q7, 3, none⟩ = some v3) wc.drew := ⟨b1, b2, b3⟩
            clear b0 b1 b2 b3
            refine Lim.regC' (fun W => W.cell? ⟨q7, 1, none⟩ = some v1 ∧ W.cell? ⟨q7, 2, none⟩ = some v2 ∧ W.cell? ⟨q7, 3, none⟩ = some v3) [16, 18, 20] #[false, false, false, false, false, false, false, false, false, false, false, false, false, false, false, false, false, false, false, false, false] (by kernel_rfl) rfl ?_
            generalize wc.drew = W0 at HM8 hC ⊢
            refine Lim.stepR 0 (fun _ => trivial) rfl (by kernel_rfl) (fun _ _ _ _ h => h) hC rfl ?_; apply Exists.intro; refine ⟨?_, ?_⟩
            · rintro w ⟨r1, r2, r3⟩; go_simp; try with_reducible rfl
            simp only [Act.put, List.setIfInBounds_toArray, List.set_cons_succ, List.set_cons_zero]
            refine Lim.stepR 1 (fun _ => trivial) rfl (by kernel_rfl) (fun _ _ _ _ h => h) hC rfl ?_; apply Exists.intro; refine ⟨?_, ?_⟩
            · rintro w ⟨r1, r2, r3⟩; go_simp; try with_reducible rfl
            simp only [Act.put, List.setIfInBounds_toArray, List.set_cons_succ, List.set_cons_zero]
            refine Lim.stepR 2 (fun _ => trivial) rfl (by kernel_rfl) (fun _ _ _ _ h => h) hC rfl ?_; apply Exists.intro; refine ⟨?_, ?_⟩
            · rintro w ⟨r1, r2, r3⟩; go_simp; try with_reducible rfl
            simp only [Act.put, List.setIfInBounds_toArray, List.set_cons_succ, List.set_cons_zero]
            refine Lim.stepR 5 (fun _ => trivial) rfl (by kernel_rfl) (fun _ _ _ _ h => h) hC rfl ?_; apply Exists.intro; refine ⟨?_, ?_⟩
            · rintro w ⟨r1, r2, r3⟩; go_simp; try with_reducible rfl
            simp only [Act.put, List.setIfInBounds_toArray, List.set_cons_succ, List.set_cons_zero]
            refine Lim.stepR 6 (fun _ => trivial) rfl (by kernel_rfl) (fun _ _ _ _ h => h) hC rfl ?_; apply Exists.intro; refine ⟨?_, ?_⟩
            · rintro w ⟨r1, r2, r3⟩; go_simp; try with_reducible rfl
            simp only [Act.put, List.setIfInBounds_toArray, List.set_cons_succ, List.set_cons_zero]
            refine Lim.stepR 7 (fun _ => trivial) rfl (by kernel_rfl) (fun _ _ _ _ h => h) hC rfl ?_; apply Exists.intro; refine ⟨?_, ?_⟩
            · rintro w ⟨r1, r2, r3⟩; go_simp; try with_reducible rfl
            simp only [Act.put, List.setIfInBounds_toArray, List.set_cons_succ, List.set_cons_zero]
            refine Lim.stepR 10 (fun _ => trivial) rfl (by kernel_rfl) (fun _ _ _ _ h => h) hC rfl ?_; apply Exists.intro; refine ⟨?_, ?_⟩
            · rintro w ⟨r1, r2, r3⟩; go_simp; try with_reducible rfl
            simp only [Act.put, List.setIfInBounds_toArray, List.set_cons_succ, List.set_cons_zero]
            refine Lim.stepR 11 (fun _ => trivial) rfl (by kernel_rfl) (fun _ _ _ _ h => h) hC rfl ?_; apply Exists.intro; refine ⟨?_, ?_⟩
            · rintro w ⟨r1, r2, r3⟩; go_simp; try with_reducible rfl
            simp only [Act.put, List.setIfInBounds_toArray, List.set_cons_succ, List.set_cons_zero]
            refine Lim.stepR 12 (fun _ => trivial) rfl (by kernel_rfl) (fun _ _ _ _ h => h) hC rfl ?_; apply Exists.intro; refine ⟨?_, ?_⟩
            · rintro w ⟨r1, r2, r3⟩; go_simp; try with_reducible rfl
            simp only [Act.put, List.setIfInBounds_toArray, List.set_cons_succ, List.set_cons_zero]
            clear hC
            have HW0 : Hid (Mem W0 w.heap.size [] ([rwI v1 t os, rwI v2 t es, rwI v3 t ss] ++ []) [(q7, Obj.cells #[.int .i64 wd, v1, v2, v3] 44 (0, 0)), (q6, Obj.cells #[.int .i64 0, .slice none 0 0, .slice none 0 0, .slice none 0 0] 44 (0, 0))] W0) := Lib.hid (by simpa using HM8.out.me)
            refine Lim.parE [3, 4, 8, 9, 13, 14, 15, 16, 17, 18, 19, 20] (fun done a W => ∃ x52 x53 x57 x58 x62 x63 x64 x65 x66, a = { tmps := #[.pointer (some ⟨d, 0, none⟩), .int .i64 C, .int .i64 R, undef, undef, undef, .pointer (some ⟨q6, 0, none⟩), .pointer (some ⟨q7, 0, none⟩), .int .i64 n, .int .i64 t, .int .i64 o, .int .i64 ea, .int .i64 sa, .pointer (some ⟨d, 0, none⟩), .int .i64 C, .int .i64 wd, .agg #[.int .i64 wd, .slice none 0 0, .slice none 0 0, .slice none 0 0], .pointer (some ⟨q7, 0, none⟩), .int .i64 wd, .pointer (some ⟨d, 0, none⟩), .int .i64 R, .int .i64 hi, .int .i64 n, .int .i64 n, .int .i64 t, .bool true, .int .i64 t, .pointer (some ⟨d, 0, none⟩), u28, u29, u30, .pointer (some ⟨d, 0, none⟩), .int .i64 x, .pointer (some ⟨d, 0, none⟩), .int .i64 y, .int .i64 t, .pointer (some ⟨q7, 0, none⟩), .int .i64 wd, .int .i64 cx, .pointer (some ⟨q7, 0, none⟩), .int .i64 wd, .int .i64 (wd - 1), u42, u43, u44, u45, u46, u47, u48, .pointer (some ⟨q7, 1, none⟩), v1, .int .i64 o, x52, x53, .pointer (some ⟨q7, 2, none⟩), v2, .int .i64 ea, x57, x58, .pointer (some ⟨q7, 3, none⟩), v3, .int .i64 sa, x62, x63, x64, x65, x66, u67, undef, undef, undef, undef, undef, undef, undef, undef, undef], defers := [] } ∧ Mem W0 w.heap.size [] ([cond (done 4) (rwI x53 (t + 1) (os ++ [o])) (rwI v1 t os), cond (done 9) (rwI x58 (t + 1) (es ++ [ea])) (rwI v2 t es), cond (done 14) (rwI x63 (t + 1) (ss ++ [sa])) (rwI v3 t ss)] ++ (onR (done 3) (rwI x52 1 [o]) ++ (onR (done 8) (rwI x57 1 [ea]) ++ onR (done 13) (rwI x62 1 [sa])))) [(q7, Obj.cells #[.int .i64 wd, cond (done 16) x53 v1, cond (done 18) x58 v2, cond (done 20) x63 v3] 44 (0, 0)), (q6, Obj.cells #[.int .i64 0, .slice none 0 0, .slice none 0 0, .slice none 0 0] 44 (0, 0))] W ∧ (done 15 = true → x64 = .pointer (some ⟨q7, 1, none⟩)) ∧ (done 17 = true → x65 = .pointer (some ⟨q7, 2, none⟩)) ∧ (done 19 = true → x66 = .pointer (some ⟨q7, 3, none⟩)) ∧ (done 16 = true → done 4 = true) ∧ (done 18 = true → done 9 = true) ∧ (done 20 = true → done 14 = true) ∧ (done 4 = true → done 3 = true) ∧ (done 9 = true → done 8 = true) ∧ (done 14 = true → done 13 = true)) (fun _ => trivial) (by kernel_rfl) rfl ?hC ?step ?fin ⟨_, _, _, _, _, _, _, _, _, rfl, HW0.out, fun h => (by cases h), fun h => (by cases h), fun h => (by cases h), fun h => (by cases h), fun h => (by cases h), fun h => (by cases h), fun h => (by cases h), fun h => (by cases h), fun h => (by cases h)⟩
            case hC =>
              rintro done a W ⟨x52, x53, x57, x58, x62, x63, x64, x65, x66, rfl, H, e15, e17, e19, e16, e18, e20, e4, e9, e14⟩ hE
              rw [hE 16 (by simp), hE 18 (by simp), hE 20 (by simp)] at H
              obtain ⟨b0, b1, b2, b3⟩ := H.box4 (q := q7) (t := 44) (List.mem_cons_self)
              exact ⟨b1, b2, b3⟩
            case step =>
              intro i o hi ho done a W hd hdep hS K hK
              obtain ⟨x52, x53, x57, x58, x62, x63, x64, x65, x66, rfl, H, e15, e17, e19, e16, e18, e20, e4, e9, e14⟩ := hS
              simp only [List.mem_cons, List.not_mem_nil, or_false] at hi
              rcases hi with rfl | rfl | rfl | rfl | rfl | rfl | rfl | rfl | rfl | rfl | rfl | rfl
              · cases ho
                clear hdep
                have n4 : done 4 = false := by
                  cases h : done 4 with
                  | false => rfl
                  | true => exact absurd (e4 h) (by rw [hd]; decide)
                rw [onR_no hd] at H
                go_simp
                refine hK _ _ ?_
                have H2 := Mem.insQs (Q1 := [cond (done 4) (rwI x53 (t + 1) (os ++ [o])) (rwI v1 t os), cond (done 9) (rwI x58 (t + 1) (es ++ [ea])) (rwI v2 t es), cond (done 14) (rwI x63 (t + 1) (ss ++ [sa])) (rwI v3 t ss)]) (P := [rwI (.slice (some ⟨W.heap.size, 0, none⟩) 1 1) 1 [o]]) H ((Below.refl _ W).alloc (Nat.le_refl _) _) (fun r hr => by rw [List.mem_singleton.1 hr]; exact one_owned W o) (List.pairwise_singleton _ _)
                refine ⟨_, x53, x57, x58, x62, x63, x64, x65, x66, rfl, ?_, (fun h => by simpa using e15 (by simpa using h)), (fun h => by simpa using e17 (by simpa using h)), (fun h => by simpa using e19 (by simpa using h)), (fun h => by simpa using e16 (by simpa using h)), (fun h => by simpa using e18 (by simpa using h)), (fun h => by simpa using e20 (by simpa using h)), (fun _ => by simp), (fun h => by simpa using e9 (by simpa using h)), (fun h => by simpa using e14 (by simpa using h))⟩
                show Mem W0 w.heap.size [] ([cond (done 4) (rwI x53 (t + 1) (os ++ [o])) (rwI v1 t os), cond (done 9) (rwI x58 (t + 1) (es ++ [ea])) (rwI v2 t es), cond (done 14) (rwI x63 (t + 1) (ss ++ [sa])) (rwI v3 t ss)] ++ (onR (true) (rwI (.slice (some ⟨W.heap.size, 0, none⟩) 1 1) 1 [o]) ++ (onR (done 8) (rwI x57 1 [ea]) ++ onR (done 13) (rwI x62 1 [sa])))) [(q7, Obj.cells #[.int .i64 wd, cond (done 16) x53 v1, cond (done 18) x58 v2, cond (done 20) x63 v3] 44 (0, 0)), (q6, Obj.cells #[.int .i64 0, .slice none 0 0, .slice none 0 0, .slice none 0 0] 44 (0, 0))] (W.alloc (.cells #[.int .i64 o] 3))
                exact H2
              · cases ho
                have h1 := hdep 3 (by kernel_rfl) (by simp)
                clear hdep
                have n16 : done 16 = false := by
                  cases h : done 16 with
                  | false => rfl
                  | true => exact absurd (e16 h) (by rw [hd]; decide)
                obtain ⟨gb, kb, rfl⟩ : ∃ g cap, x52 = .slice (some ⟨g, 0, none⟩) 1 cap := form_pos (r := rwI x52 1 [o]) (H.q _ (by rw [onR_yes h1]; simp)) (show 0 < 1 by decide)
                have o3 := H.q (rwI (.slice (some ⟨gb, 0, none⟩) 1 kb) 1 [o]) (by rw [onR_yes h1]; simp)
                rw [hd] at H
                have o0 : W.ownsRow w.heap.size 3 1 v1 t (ints os) := H.q (rwI v1 t os) (by simp)
                obtain ⟨v', W', hrun, hown, hgrow, -, hat⟩ := run_append_own_at (P := Try.prog) W w.heap.size 22 22 3 i0 (.int .i64 0) 1 8 Try.underlying22 HF.out.1 HF.out.2.1 HF.out.2.2.1 HF.out.2.2.2 rfl (by decide) v1 t (ints os) o0 ⟨gb, 0, none⟩ 1 kb [.int .i64 o] rfl (fun j u hj => World.ownsRow.cells o3 (g := gb) rfl j u hj) (by simp [Value.oneCell']) (by have := HT.out; unfold maxLen; omega) (by have := HT.out; omega) H.o
                refine Lim.append_upon rfl rfl rfl hrun (hK _ _ ?_)
                simp only [Act.put, List.setIfInBounds_toArray, List.set_cons_succ, List.set_cons_zero]
                have H2 := Mem.push (Q1 := []) (Q2 := ([cond (done 9) (rwI x58 (t + 1) (es ++ [ea])) (rwI v2 t es), cond (done 14) (rwI x63 (t + 1) (ss ++ [sa])) (rwI v3 t ss)] ++ (onR (done 3) (rwI (.slice (some ⟨gb, 0, none⟩) 1 kb) 1 [o]) ++ (onR (done 8) (rwI x57 1 [ea]) ++ onR (done 13) (rwI x62 1 [sa]))))) (v := v1) (n := t) (l := os) (x := o) (by simpa using H) hown hgrow hat
                refine ⟨_, _, x57, x58, x62, x63, x64, x65, x66, rfl, ?_, (fun h => by simpa using e15 (by simpa using h)), (fun h => by simpa using e17 (by simpa using h)), (fun h => by simpa using e19 (by simpa using h)), (fun h => absurd (show done 16 = true by simpa using h) (by rw [n16]; decide)), (fun h => by simpa using e18 (by simpa using h)), (fun h => by simpa using e20 (by simpa using h)), (fun _ => by simpa using h1), (fun h => by simpa using e9 (by simpa using h)), (fun h => by simpa using e14 (by simpa using h))⟩
                show Mem W0 w.heap.size [] ([cond (true) (rwI v' (t + 1) (os ++ [o])) (rwI v1 t os), cond (done 9) (rwI x58 (t + 1) (es ++ [ea])) (rwI v2 t es), cond (done 14) (rwI x63 (t + 1) (ss ++ [sa])) (rwI v3 t ss)] ++ (onR (done 3) (rwI (.slice (some ⟨gb, 0, none⟩) 1 kb) 1 [o]) ++ (onR (done 8) (rwI x57 1 [ea]) ++ onR (done 13) (rwI x62 1 [sa])))) [(q7, Obj.cells #[.int .i64 wd, cond (done 16) v' v1, cond (done 18) x58 v2, cond (done 20) x63 v3] 44 (0, 0)), (q6, Obj.cells #[.int .i64 0, .slice none 0 0, .slice none 0 0, .slice none 0 0] 44 (0, 0))] W'
                simpa [n16] using H2
              · cases ho
                clear hdep
                have n9 : done 9 = false := by
                  cases h : done 9 with
                  | false => rfl
                  | true => exact absurd (e9 h) (by rw [hd]; decide)
                rw [onR_no hd] at H
                rw [← List.append_assoc] at H
                go_simp
                refine hK _ _ ?_
                have H2 := Mem.insQs (Q1 := [cond (done 4) (rwI x53 (t + 1) (os ++ [o])) (rwI v1 t os), cond (done 9) (rwI x58 (t + 1) (es ++ [ea])) (rwI v2 t es), cond (done 14) (rwI x63 (t + 1) (ss ++ [sa])) (rwI v3 t ss)] ++ onR (done 3) (rwI x52 1 [o])) (P := [rwI (.slice (some ⟨W.heap.size, 0, none⟩) 1 1) 1 [ea]]) H ((Below.refl _ W).alloc (Nat.le_refl _) _) (fun r hr => by rw [List.mem_singleton.1 hr]; exact one_owned W ea) (List.pairwise_singleton _ _)
                rw [List.append_assoc] at H2
                refine ⟨x52, x53, _, x58, x62, x63, x64, x65, x66, rfl, ?_, (fun h => by simpa using e15 (by simpa using h)), (fun h => by simpa using e17 (by simpa using h)), (fun h => by simpa using e19 (by simpa using h)), (fun h => by simpa using e16 (by simpa using h)), (fun h => by simpa using e18 (by simpa using h)), (fun h => by simpa using e20 (by simpa using h)), (fun h => by simpa using e4 (by simpa using h)), (fun _ => by simp), (fun h => by simpa using e14 (by simpa using h))⟩
                show Mem W0 w.heap.size [] ([cond (done 4) (rwI x53 (t + 1) (os ++ [o])) (rwI v1 t os), cond (done 9) (rwI x58 (t + 1) (es ++ [ea])) (rwI v2 t es), cond (done 14) (rwI x63 (t + 1) (ss ++ [sa])) (rwI v3 t ss)] ++ (onR (done 3) (rwI x52 1 [o]) ++ (onR (true) (rwI (.slice (some ⟨W.heap.size, 0, none⟩) 1 1) 1 [ea]) ++ onR (done 13) (rwI x62 1 [sa])))) [(q7, Obj.cells #[.int .i64 wd, cond (done 16) x53 v1, cond (done 18) x58 v2, cond (done 20) x63 v3] 44 (0, 0)), (q6, Obj.cells #[.int .i64 0, .slice none 0 0, .slice none 0 0, .slice none 0 0] 44 (0, 0))] (W.alloc (.cells #[.int .i64 ea] 3))
                exact H2
              · cases ho
                have h1 := hdep 8 (by kernel_rfl) (by simp)
                clear hdep
                have n18 : done 18 = false := by
                  cases h : done 18 with
                  | false => rfl
                  | true => exact absurd (e18 h) (by rw [hd]; decide)
                obtain ⟨gb, kb, rfl⟩ : ∃ g cap, x57 = .slice (some ⟨g, 0, none⟩) 1 cap := form_pos (r := rwI x57 1 [ea]) (H.q _ (by rw [onR_yes h1]; simp)) (show 0 < 1 by decide)
                have o3 := H.q (rwI (.slice (some ⟨gb, 0, none⟩) 1 kb) 1 [ea]) (by rw [onR_yes h1]; simp)
                rw [hd] at H
                have o0 : W.ownsRow w.heap.size 3 1 v2 t (ints es) := H.q (rwI v2 t es) (by simp)
                obtain ⟨v', W', hrun, hown, hgrow, -, hat⟩ := run_append_own_at (P := Try.prog) W w.heap.size 22 22 3 i0 (.int .i64 0) 1 8 Try.underlying22 HF.out.1 HF.out.2.1 HF.out.2.2.1 HF.out.2.2.2 rfl (by decide) v2 t (ints es) o0 ⟨gb, 0, none⟩ 1 kb [.int .i64 ea] rfl (fun j u hj => World.ownsRow.cells o3 (g := gb) rfl j u hj) (by simp [Value.oneCell']) (by have := HT.out; unfold maxLen; omega) (by have := HT.out; omega) H.o
                refine Lim.append_upon rfl rfl rfl hrun (hK _ _ ?_)
                simp only [Act.put, List.setIfInBounds_toArray, List.set_cons_succ, List.set_cons_zero]
                have H2 := Mem.push (Q1 := [cond (done 4) (rwI x53 (t + 1) (os ++ [o])) (rwI v1 t os)]) (Q2 := ([cond (done 14) (rwI x63 (t + 1) (ss ++ [sa])) (rwI v3 t ss)] ++ (onR (done 3) (rwI x52 1 [o]) ++ (onR (done 8) (rwI (.slice (some ⟨gb, 0, none⟩) 1 kb) 1 [ea]) ++ onR (done 13) (rwI x62 1 [sa]))))) (v := v2) (n := t) (l := es) (x := ea) (by simpa using H) hown hgrow hat
                refine ⟨x52, x53, _, _, x62, x63, x64, x65, x66, rfl, ?_, (fun h => by simpa using e15 (by simpa using h)), (fun h => by simpa using e17 (by simpa using h)), (fun h => by simpa using e19 (by simpa using h)), (fun h => by simpa using e16 (by simpa using h)), (fun h => absurd (show done 18 = true by simpa using h) (by rw [n18]; decide)), (fun h => by simpa using e20 (by simpa using h)), (fun h => by simpa using e4 (by simpa using h)), (fun _ => by simpa using h1), (fun h => by simpa using e14 (by simpa using h))⟩
                show Mem W0 w.heap.size [] ([cond (done 4) (rwI x53 (t + 1) (os ++ [o])) (rwI v1 t os), cond (true) (rwI v' (t + 1) (es ++ [ea])) (rwI v2 t es), cond (done 14) (rwI x63 (t + 1) (ss ++ [sa])) (rwI v3 t ss)] ++ (onR (done 3) (rwI x52 1 [o]) ++ (onR (done 8) (rwI (.slice (some ⟨gb, 0, none⟩) 1 kb) 1 [ea]) ++ onR (done 13) (rwI x62 1 [sa])))) [(q7, Obj.cells #[.int .i64 wd, cond (done 16) x53 v1, cond (done 18) v' v2, cond (done 20) x63 v3] 44 (0, 0)), (q6, Obj.cells #[.int .i64 0, .slice none 0 0, .slice none 0 0, .slice none 0 0] 44 (0, 0))] W'
                simpa [n18] using H2
              · cases ho
                clear hdep
                have n14 : done 14 = false := by
                  cases h : done 14 with
                  | false => rfl
                  | true => exact absurd (e14 h) (by rw [hd]; decide)
                rw [onR_no hd] at H
                rw [List.append_nil] at H
                rw [show ([cond (done 4) (rwI x53 (t + 1) (os ++ [o])) (rwI v1 t os), cond (done 9) (rwI x58 (t + 1) (es ++ [ea])) (rwI v2 t es), cond (done 14) (rwI x63 (t + 1) (ss ++ [sa])) (rwI v3 t ss)] ++ (onR (done 3) (rwI x52 1 [o]) ++ onR (done 8) (rwI x57 1 [ea]))) = ([cond (done 4) (rwI x53 (t + 1) (os ++ [o])) (rwI v1 t os), cond (done 9) (rwI x58 (t + 1) (es ++ [ea])) (rwI v2 t es), cond (done 14) (rwI x63 (t + 1) (ss ++ [sa])) (rwI v3 t ss)] ++ (onR (done 3) (rwI x52 1 [o]) ++ onR (done 8) (rwI x57 1 [ea]))) ++ [] from (List.append_nil _).symm] at H
                go_simp
                refine hK _ _ ?_
                have H2 := Mem.insQs (Q1 := [cond (done 4) (rwI x53 (t + 1) (os ++ [o])) (rwI v1 t os), cond (done 9) (rwI x58 (t + 1) (es ++ [ea])) (rwI v2 t es), cond (done 14) (rwI x63 (t + 1) (ss ++ [sa])) (rwI v3 t ss)] ++ (onR (done 3) (rwI x52 1 [o]) ++ onR (done 8) (rwI x57 1 [ea]))) (P := [rwI (.slice (some ⟨W.heap.size, 0, none⟩) 1 1) 1 [sa]]) H ((Below.refl _ W).alloc (Nat.le_refl _) _) (fun r hr => by rw [List.mem_singleton.1 hr]; exact one_owned W sa) (List.pairwise_singleton _ _)
                rw [List.append_assoc ([cond (done 4) (rwI x53 (t + 1) (os ++ [o])) (rwI v1 t os), cond (done 9) (rwI x58 (t + 1) (es ++ [ea])) (rwI v2 t es), cond (done 14) (rwI x63 (t + 1) (ss ++ [sa])) (rwI v3 t ss)]), List.append_assoc (onR (done 3) (rwI x52 1 [o])) (onR (done 8) (rwI x57 1 [ea]))] at H2
                refine ⟨x52, x53, x57, x58, _, x63, x64, x65, x66, rfl, ?_, (fun h => by simpa using e15 (by simpa using h)), (fun h => by simpa using e17 (by simpa using h)), (fun h => by simpa using e19 (by simpa using h)), (fun h => by simpa using e16 (by simpa using h)), (fun h => by simpa using e18 (by simpa using h)), (fun h => by simpa using e20 (by simpa using h)), (fun h => by simpa using e4 (by simpa using h)), (fun h => by simpa using e9 (by simpa using h)), (fun _ => by simp)⟩
                show Mem W0 w.heap.size [] ([cond (done 4) (rwI x53 (t + 1) (os ++ [o])) (rwI v1 t os), cond (done 9) (rwI x58 (t + 1) (es ++ [ea])) (rwI v2 t es), cond (done 14) (rwI x63 (t + 1) (ss ++ [sa])) (rwI v3 t ss)] ++ (onR (done 3) (rwI x52 1 [o]) ++ (onR (done 8) (rwI x57 1 [ea]) ++ onR (true) (rwI (.slice (some ⟨W.heap.size, 0, none⟩) 1 1) 1 [sa])))) [(q7, Obj.cells #[.int .i64 wd, cond (done 16) x53 v1, cond (done 18) x58 v2, cond (done 20) x63 v3] 44 (0, 0)), (q6, Obj.cells #[.int .i64 0, .slice none 0 0, .slice none 0 0, .slice none 0 0] 44 (0, 0))] (W.alloc (.cells #[.int .i64 sa] 3))
                exact H2
              · cases ho
                have h1 := hdep 13 (by kernel_rfl) (by simp)
                clear hdep
                have n20 : done 20 = false := by
                  cases h : done 20 with
                  | false => rfl
                  | true => exact absurd (e20 h) (by rw [hd]; decide)
                obtain ⟨gb, kb, rfl⟩ : ∃ g cap, x62 = .slice (some ⟨g, 0, none⟩) 1 cap := form_pos (r := rwI x62 1 [sa]) (H.q _ (by rw [onR_yes h1]; simp)) (show 0 < 1 by decide)
                have o3 := H.q (rwI (.slice (some ⟨gb, 0, none⟩) 1 kb) 1 [sa]) (by rw [onR_yes h1]; simp)
                rw [hd] at H
                have o0 : W.ownsRow w.heap.size 3 1 v3 t (ints ss) := H.q (rwI v3 t ss) (by simp)
                obtain ⟨v', W', hrun, hown, hgrow, -, hat⟩ := run_append_own_at (P := Try.prog) W w.heap.size 22 22 3 i0 (.int .i64 0) 1 8 Try.underlying22 HF.out.1 HF.out.2.1 HF.out.2.2.1 HF.out.2.2.2 rfl (by decide) v3 t (ints ss) o0 ⟨gb, 0, none⟩ 1 kb [.int .i64 sa] rfl (fun j u hj => World.ownsRow.cells o3 (g := gb) rfl j u hj) (by simp [Value.oneCell']) (by have := HT.out; unfold maxLen; omega) (by have := HT.out; omega) H.o
                refine Lim.append_upon rfl rfl rfl hrun (hK _ _ ?_)
                simp only [Act.put, List.setIfInBounds_toArray, List.set_cons_succ, List.set_cons_zero]
                have H2 := Mem.push (Q1 := [cond (done 4) (rwI x53 (t + 1) (os ++ [o])) (rwI v1 t os), cond (done 9) (rwI x58 (t + 1) (es ++ [ea])) (rwI v2 t es)]) (Q2 := ([] ++ (onR (done 3) (rwI x52 1 [o]) ++ (onR (done 8) (rwI x57 1 [ea]) ++ onR (done 13) (rwI (.slice (some ⟨gb, 0, none⟩) 1 kb) 1 [sa]))))) (v := v3) (n := t) (l := ss) (x := sa) (by simpa using H) hown hgrow hat
                refine ⟨x52, x53, x57, x58, _, _, x64, x65, x66, rfl, ?_, (fun h => by simpa using e15 (by simpa using h)), (fun h => by simpa using e17 (by simpa using h)), (fun h => by simpa using e19 (by simpa using h)), (fun h => by simpa using e16 (by simpa using h)), (fun h => by simpa using e18 (by simpa using h)), (fun h => absurd (show done 20 = true by simpa using h) (by rw [n20]; decide)), (fun h => by simpa using e4 (by simpa using h)), (fun h => by simpa using e9 (by simpa using h)), (fun _ => by simpa using h1)⟩
                show Mem W0 w.heap.size [] ([cond (done 4) (rwI x53 (t + 1) (os ++ [o])) (rwI v1 t os), cond (done 9) (rwI x58 (t + 1) (es ++ [ea])) (rwI v2 t es), cond (true) (rwI v' (t + 1) (ss ++ [sa])) (rwI v3 t ss)] ++ (onR (done 3) (rwI x52 1 [o]) ++ (onR (done 8) (rwI x57 1 [ea]) ++ onR (done 13) (rwI (.slice (some ⟨gb, 0, none⟩) 1 kb) 1 [sa])))) [(q7, Obj.cells #[.int .i64 wd, cond (done 16) x53 v1, cond (done 18) x58 v2, cond (done 20) v' v3] 44 (0, 0)), (q6, Obj.cells #[.int .i64 0, .slice none 0 0, .slice none 0 0, .slice none 0 0] 44 (0, 0))] W'
                simpa [n20] using H2
              · cases ho
                clear hdep
                go_simp
                refine hK _ _ ?_
                exact ⟨x52, x53, x57, x58, x62, x63, _, x65, x66, rfl, H, (fun _ => rfl), (fun h => by simpa using e17 (by simpa using h)), (fun h => by simpa using e19 (by simpa using h)), (fun h => by simpa using e16 (by simpa using h)), (fun h => by simpa using e18 (by simpa using h)), (fun h => by simpa using e20 (by simpa using h)), (fun h => by simpa using e4 (by simpa using h)), (fun h => by simpa using e9 (by simpa using h)), (fun h => by simpa using e14 (by simpa using h))⟩
              · cases ho
                have h1 := hdep 4 (by kernel_rfl) (by simp)
                obtain rfl := e15 (hdep 15 (by kernel_rfl) (by simp))
                clear hdep
                obtain ⟨gb, kb, rfl⟩ : ∃ g cap, x53 = .slice (some ⟨g, 0, none⟩) (t + 1) cap := form_pos (r := rwI x53 (t + 1) (os ++ [o])) (H.q _ (by rw [h1]; simp)) (show 0 < t + 1 by omega)
                obtain ⟨b0, b1, b2, b3⟩ := H.box4 (t := 44) (List.mem_cons_self)
                obtain ⟨f0, f1, f2, f3⟩ := H.frz4 (q := q7) (t := 44) (List.mem_cons_self)
                have H2 := Mem.putX (X1 := []) H 1 (.slice (some ⟨gb, 0, none⟩) (t + 1) kb)
                rw [hd] at H2 b1
                go_simp
                clear b0 b1 b2 b3 f0 f1 f2 f3
                refine hK _ _ ?_
                refine ⟨x52, (.slice (some ⟨gb, 0, none⟩) (t + 1) kb), x57, x58, x62, x63, _, x65, x66, rfl, ?_, (fun _ => rfl), (fun h => by simpa using e17 (by simpa using h)), (fun h => by simpa using e19 (by simpa using h)), (fun _ => by simpa using h1), (fun h => by simpa using e18 (by simpa using h)), (fun h => by simpa using e20 (by simpa using h)), (fun h => by simpa using e4 (by simpa using h)), (fun h => by simpa using e9 (by simpa using h)), (fun h => by simpa using e14 (by simpa using h))⟩
                show Mem W0 w.heap.size [] ([cond (done 4) (rwI (.slice (some ⟨gb, 0, none⟩) (t + 1) kb) (t + 1) (os ++ [o])) (rwI v1 t os), cond (done 9) (rwI x58 (t + 1) (es ++ [ea])) (rwI v2 t es), cond (done 14) (rwI x63 (t + 1) (ss ++ [sa])) (rwI v3 t ss)] ++ (onR (done 3) (rwI x52 1 [o]) ++ (onR (done 8) (rwI x57 1 [ea]) ++ onR (done 13) (rwI x62 1 [sa])))) [(q7, Obj.cells #[.int .i64 wd, cond (true) (.slice (some ⟨gb, 0, none⟩) (t + 1) kb) v1, cond (done 18) x58 v2, cond (done 20) x63 v3] 44 (0, 0)), (q6, Obj.cells #[.int .i64 0, .slice none 0 0, .slice none 0 0, .slice none 0 0] 44 (0, 0))] _
                simpa using H2
              · cases ho
                clear hdep
                go_simp
                refine hK _ _ ?_
                exact ⟨x52, x53, x57, x58, x62, x63, x64, _, x66, rfl, H, (fun h => by simpa using e15 (by simpa using h)), (fun _ => rfl), (fun h => by simpa using e19 (by simpa using h)), (fun h => by simpa using e16 (by simpa using h)), (fun h => by simpa using e18 (by simpa using h)), (fun h => by simpa using e20 (by simpa using h)), (fun h => by simpa using e4 (by simpa using h)), (fun h => by simpa using e9 (by simpa using h)), (fun h => by simpa using e14 (by simpa using h))⟩
              · cases ho
                have h1 := hdep 9 (by kernel_rfl) (by simp)
                obtain rfl := e17 (hdep 17 (by kernel_rfl) (by simp))
                clear hdep
                obtain ⟨gb, kb, rfl⟩ : ∃ g cap, x58 = .slice (some ⟨g, 0, none⟩) (t + 1) cap := form_pos (r := rwI x58 (t + 1) (es ++ [ea])) (H.q _ (by rw [h1]; simp)) (show 0 < t + 1 by omega)
                obtain ⟨b0, b1, b2, b3⟩ := H.box4 (t := 44) (List.mem_cons_self)
                obtain ⟨f0, f1, f2, f3⟩ := H.frz4 (q := q7) (t := 44) (List.mem_cons_self)
                have H2 := Mem.putX (X1 := []) H 2 (.slice (some ⟨gb, 0, none⟩) (t + 1) kb)
                rw [hd] at H2 b2
                go_simp
                clear b0 b1 b2 b3 f0 f1 f2 f3
                refine hK _ _ ?_
                refine ⟨x52, x53, x57, (.slice (some ⟨gb, 0, none⟩) (t + 1) kb), x62, x63, x64, _, x66, rfl, ?_, (fun h => by simpa using e15 (by simpa using h)), (fun _ => rfl), (fun h => by simpa using e19 (by simpa using h)), (fun h => by simpa using e16 (by simpa using h)), (fun _ => by simpa using h1), (fun h => by simpa using e20 (by simpa using h)), (fun h => by simpa using e4 (by simpa using h)), (fun h => by simpa using e9 (by simpa using h)), (fun h => by simpa using e14 (by simpa using h))⟩
                show Mem W0 w.heap.size [] ([cond (done 4) (rwI x53 (t + 1) (os ++ [o])) (rwI v1 t os), cond (done 9) (rwI (.slice (some ⟨gb, 0, none⟩) (t + 1) kb) (t + 1) (es ++ [ea])) (rwI v2 t es), cond (done 14) (rwI x63 (t + 1) (ss ++ [sa])) (rwI v3 t ss)] ++ (onR (done 3) (rwI x52 1 [o]) ++ (onR (done 8) (rwI x57 1 [ea]) ++ onR (done 13) (rwI x62 1 [sa])))) [(q7, Obj.cells #[.int .i64 wd, cond (done 16) x53 v1, cond (true) (.slice (some ⟨gb, 0, none⟩) (t + 1) kb) v2, cond (done 20) x63 v3] 44 (0, 0)), (q6, Obj.cells #[.int .i64 0, .slice none 0 0, .slice none 0 0, .slice none 0 0] 44 (0, 0))] _
                simpa using H2
              · cases ho
                clear hdep
                go_simp
                refine hK _ _ ?_
                exact ⟨x52, x53, x57, x58, x62, x63, x64, x65, _, rfl, H, (fun h => by simpa using e15 (by simpa using h)), (fun h => by simpa using e17 (by simpa using h)), (fun _ => rfl), (fun h => by simpa using e16 (by simpa using h)), (fun h => by simpa using e18 (by simpa using h)), (fun h => by simpa using e20 (by simpa using h)), (fun h => by simpa using e4 (by simpa using h)), (fun h => by simpa using e9 (by simpa using h)), (fun h => by simpa using e14 (by simpa using h))⟩
              · cases ho
                have h1 := hdep 14 (by kernel_rfl) (by simp)
                obtain rfl := e19 (hdep 19 (by kernel_rfl) (by simp))
                clear hdep
                obtain ⟨gb, kb, rfl⟩ : ∃ g cap, x63 = .slice (some ⟨g, 0, none⟩) (t + 1) cap := form_pos (r := rwI x63 (t + 1) (ss ++ [sa])) (H.q _ (by rw [h1]; simp)) (show 0 < t + 1 by omega)
                obtain ⟨b0, b1, b2, b3⟩ := H.box4 (t := 44) (List.mem_cons_self)
                obtain ⟨f0, f1, f2, f3⟩ := H.frz4 (q := q7) (t := 44) (List.mem_cons_self)
                have H2 := Mem.putX (X1 := []) H 3 (.slice (some ⟨gb, 0, none⟩) (t + 1) kb)
                rw [hd] at H2 b3
                go_simp
                clear b0 b1 b2 b3 f0 f1 f2 f3
                refine hK _ _ ?_
                refine ⟨x52, x53, x57, x58, x62, (.slice (some ⟨gb, 0, none⟩) (t + 1) kb), x64, x65, _, rfl, ?_, (fun h => by simpa using e15 (by simpa using h)), (fun h => by simpa using e17 (by simpa using h)), (fun _ => rfl), (fun h => by simpa using e16 (by simpa using h)), (fun h => by simpa using e18 (by simpa using h)), (fun _ => by simpa using h1), (fun h => by simpa using e4 (by simpa using h)), (fun h => by simpa using e9 (by simpa using h)), (fun h => by simpa using e14 (by simpa using h))⟩
                show Mem W0 w.heap.size [] ([cond (done 4) (rwI x53 (t + 1) (os ++ [o])) (rwI v1 t os), cond (done 9) (rwI x58 (t + 1) (es ++ [ea])) (rwI v2 t es), cond (done 14) (rwI (.slice (some ⟨gb, 0, none⟩) (t + 1) kb) (t + 1) (ss ++ [sa])) (rwI v3 t ss)] ++ (onR (done 3) (rwI x52 1 [o]) ++ (onR (done 8) (rwI x57 1 [ea]) ++ onR (done 13) (rwI x62 1 [sa])))) [(q7, Obj.cells #[.int .i64 wd, cond (done 16) x53 v1, cond (done 18) x58 v2, cond (true) (.slice (some ⟨gb, 0, none⟩) (t + 1) kb) v3] 44 (0, 0)), (q6, Obj.cells #[.int .i64 0, .slice none 0 0, .slice none 0 0, .slice none 0 0] 44 (0, 0))] _
                simpa using H2
            case fin =>
              rintro done a W hall ⟨x52, x53, x57, x58, x62, x63, x64, x65, x66, rfl, H, e15, e17, e19, e16, e18, e20, e4, e9, e14⟩
              rw [hall 4 (by simp), hall 9 (by simp), hall 14 (by simp), hall 16 (by simp), hall 18 (by simp), hall 20 (by simp)] at H
              have HN14 := Lib.hid (HM8.out.next H)
              clear H hall HM8 HW0
              go_wp2_with fail
              go_roundw
              case rel => exact ⟨t + 1, by omega, by go_num, _, _, _, _, _, _, _, Lib.hid ⟨HP.out.1.more HO.out.1 HEA.out HSA.out, by have := HP.out.2; have := HO.out.2; omega⟩, HN14⟩
              case measure => simp [intOf]; omega
    · obtain rfl : t = n := by omega
      have HT2 : Hid (2 ≤ t ∧ t ≤ 100) := Lib.hid ⟨by have := HN.out; have := HWD.out; have := HHI.out; have h := Nat.mul_le_mul (n₁ := 1) (n₂ := wd) (m₁ := 2) (m₂ := hi) (by omega) (by omega); omega, by omega⟩
      obtain ⟨g1, k1, rfl⟩ : ∃ g cap, v1 = .slice (some ⟨g, 0, none⟩) t cap := form_pos (r := rwI v1 t os) (HM.out.me.q _ (by simp)) (show 0 < t by have := HT2.out; omega)
      obtain ⟨g2, k2, rfl⟩ : ∃ g cap, v2 = .slice (some ⟨g, 0, none⟩) t cap := form_pos (r := rwI v2 t es) (HM.out.me.q _ (by simp)) (show 0 < t by have := HT2.out; omega)
      obtain ⟨g3, k3, rfl⟩ : ∃ g cap, v3 = .slice (some ⟨g, 0, none⟩) t cap := form_pos (r := rwI v3 t ss) (HM.out.me.q _ (by simp)) (show 0 < t by have := HT2.out; omega)
      obtain ⟨N1, hN1⟩ : ∃ N1 : Nat, N1 + 1 = t := ⟨t - 1, by have := HT2.out; omega⟩
      have e1 : IntKind.i64.wrap ((t : Int) - 1) = (N1 : Int) := by rw [IntWalk.i64_in _ (by omega)]; omega
      have hp0 : (0 : Int) < (t : Int) := by omega
      have hp1 : (N1 : Int) < (t : Int) := by omega
      have hp00 : 0 < t := by omega
      have hp10 : N1 < t := by omega
      have HN1 := Lib.hid hN1
      have HM1 := Lib.hid (HM.out.below (Below.refl _ wr).drew)
      have hC : (fun W => W.cell? ⟨q7, 1, none⟩ = some (.slice (some ⟨g1, 0, none⟩) t k1)) wr.drew := (HM1.out.me.box4 (t := 44) (List.mem_cons_self)).2.1
      clear HM hN1 hlt ht
      go_upto_region 16 with (fail)
      refine Lim.regC' (fun W => W.cell? ⟨q7, 1, none⟩ = some (.slice (some ⟨g1, 0, none⟩) t k1)) [] #[false, false, false, false, false, false, false, false, false, false] (by kernel_rfl) rfl ?_
      generalize wr.drew = W1 at HM1 hC ⊢
      refine Lim.stepR 0 (fun _ => trivial) rfl (by kernel_rfl) (fun _ _ _ _ h => h) hC rfl ?_; apply Exists.intro; refine ⟨?_, ?_⟩
      · rintro w r1; go_simp; try with_reducible rfl
      simp only [Act.put, List.setIfInBounds_toArray, List.set_cons_succ, List.set_cons_zero]
      refine Lim.stepR 1 (fun _ => trivial) rfl (by kernel_rfl) (fun _ _ _ _ h => h) hC rfl ?_; apply Exists.intro; refine ⟨?_, ?_⟩
      · rintro w r1; go_simp; try with_reducible rfl
      simp only [Act.put, List.setIfInBounds_toArray, List.set_cons_succ, List.set_cons_zero]
      refine Lim.stepR 2 (fun _ => trivial) rfl (by kernel_rfl) (fun _ _ _ _ h => h) hC rfl ?_; apply Exists.intro; refine ⟨?_, ?_⟩
      · rintro w r1; go_simp; try with_reducible rfl
      simp only [Act.put, List.setIfInBounds_toArray, List.set_cons_succ, List.set_cons_zero]
      refine Lim.stepR 3 (fun _ => trivial) rfl (by kernel_rfl) (fun _ _ _ _ h => h) hC rfl ?_; apply Exists.intro; refine ⟨?_, ?_⟩
      · rintro w r1; go_simp; try with_reducible rfl
      simp only [Act.put, List.setIfInBounds_toArray, List.set_cons_succ, List.set_cons_zero]
      refine Lim.stepR 4 (fun _ => trivial) rfl (by kernel_rfl) (fun _ _ _ _ h => h) hC rfl ?_; apply Exists.intro; refine ⟨?_, ?_⟩
      · rintro w r1; go_simp; try with_reducible rfl
      simp only [Act.put, List.setIfInBounds_toArray, List.set_cons_succ, List.set_cons_zero]
      refine Lim.stepR 5 (fun _ => trivial) rfl (by kernel_rfl) (fun _ _ _ _ h => h) hC rfl ?_; apply Exists.intro; refine ⟨?_, ?_⟩
      · rintro w r1; go_simp; try with_reducible rfl
      simp only [Act.put, List.setIfInBounds_toArray, List.set_cons_succ, List.set_cons_zero]
      refine Lim.stepR 6 (fun _ => trivial) rfl (by kernel_rfl) (fun _ _ _ _ h => h) hC rfl ?_; apply Exists.intro; refine ⟨?_, ?_⟩
      · rintro w r1; go_simp; try with_reducible rfl
      simp only [Act.put, List.setIfInBounds_toArray, List.set_cons_succ, List.set_cons_zero]
      refine Lim.stepE 7 (fun _ => trivial) rfl (by kernel_rfl) rfl (fun K hK => ?_)   -- E store
      have q0 : W1.cell? ⟨g1, 0, none⟩ = some (.int .i64 (os.getD 0 0)) := HM1.out.me.cellI (n := t) (cap := k1) (.inr (by simp)) (by rw [HP.out.1.lo]; exact hp00)
      have f0 : W1.frozen? ⟨g1, 0, none⟩ = false := row_frz (r := rwI (.slice (some ⟨g1, 0, none⟩) t k1) t os) (HM1.out.me.q _ (by simp)) rfl 0
      have HA := Lib.hid (Mem.setI (Q1 := []) HM1.out.me 0 0)
      have hC1 : (fun W => W.cell? ⟨q7, 1, none⟩ = some (.slice (some ⟨g1, 0, none⟩) t k1)) (W1.setCell ⟨g1, 0, none⟩ (.int .i64 0)) := (HA.out.box4 (t := 44) (List.mem_cons_self)).2.1
      go_simp
      refine hK _ _ hC1 ?_
      clear q0 f0 hC
      generalize W1.setCell ⟨g1, 0, none⟩ (.int .i64 0) = W2 at HA hC1 ⊢
      simp only [Act.put, List.setIfInBounds_toArray, List.set_cons_succ, List.set_cons_zero]
      refine Lim.stepR 8 (fun _ => trivial) rfl (by kernel_rfl) (fun _ _ _ _ h => h) hC1 rfl ?_; apply Exists.intro; refine ⟨?_, ?_⟩
      · rintro w r1; go_simp; try with_reducible rfl
      simp only [Act.put, List.setIfInBounds_toArray, List.set_cons_succ, List.set_cons_zero]
      refine Lim.stepE 9 (fun _ => trivial) rfl (by kernel_rfl) rfl (fun K hK => ?_)   -- E store
      have q0 : W2.cell? ⟨g1, N1, none⟩ = some (.int .i64 ((os.set 0 0).getD N1 0)) := HA.out.cellI (n := t) (cap := k1) (.inr (by simp)) (by rw [List.length_set, HP.out.1.lo]; exact hp10)
      have f0 : W2.frozen? ⟨g1, N1, none⟩ = false := row_frz (r := rwI (.slice (some ⟨g1, 0, none⟩) t k1) t (os.set 0 0)) (HA.out.q _ (by simp)) rfl N1
      have HB := Lib.hid (Mem.setI (Q1 := []) HA.out N1 1)
      have hC2 : (fun W => W.cell? ⟨q7, 1, none⟩ = some (.slice (some ⟨g1, 0, none⟩) t k1)) (W2.setCell ⟨g1, N1, none⟩ (.int .i64 1)) := (HB.out.box4 (t := 44) (List.mem_cons_self)).2.1
      go_simp
      refine hK _ _ hC2 ?_
      clear q0 f0 hC1
      generalize W2.setCell ⟨g1, N1, none⟩ (.int .i64 1) = W3 at HB hC2 ⊢
      simp only [Act.put, List.setIfInBounds_toArray, List.set_cons_succ, List.set_cons_zero]
      refine Lim.stepD (by kernel_rfl) ?_
      clear hC2 HA
      have HL := Lib.hid (And.intro HM1.out.sp HM1.out.lt)
      clear HM1
      obtain ⟨b0, b1, b2, b3⟩ := HB.out.box4 (q := q7) (t := 44) (List.mem_cons_self)
      obtain ⟨z0, z1, z2, z3⟩ := HB.out.box4 (q := q6) (a := .int .i64 0) (b := .slice none 0 0) (e := .slice none 0 0) (f := .slice none 0 0) (t := 44) (by simp)
      obtain ⟨f0, f1, f2, f3⟩ := HB.out.frz4 (q := q6) (a := .int .i64 0) (b := .slice none 0 0) (e := .slice none 0 0) (f := .slice none 0 0) (t := 44) (by simp)
      go_wp2_with fail
      have HF := Lib.hid (Mem.put4 (X1 := [(q7, Obj.cells #[.int .i64 wd, .slice (some ⟨g1, 0, none⟩) t k1, .slice (some ⟨g2, 0, none⟩) t k2, .slice (some ⟨g3, 0, none⟩) t k3] 44 (0, 0))]) (X2 := []) HB.out (.int .i64 wd) (.slice (some ⟨g1, 0, none⟩) t k1) (.slice (some ⟨g2, 0, none⟩) t k2) (.slice (some ⟨g3, 0, none⟩) t k3))
      obtain ⟨r0, r1, r2, r3⟩ := HF.out.box4 (q := q6) (a := .int .i64 wd) (b := .slice (some ⟨g1, 0, none⟩) t k1) (e := .slice (some ⟨g2, 0, none⟩) t k2) (f := .slice (some ⟨g3, 0, none⟩) t k3) (t := 44) (by simp)
      refine bodyPost_ret (results_mid (fn := Try.f21) (p := 6) (ty := 44) rfl _ _ q6 0 [_, _, _, _] _ rfl (four_range r0 r1 r2 r3) Try.underlying44 rfl (show (Try.prog.info? 44).map (·.size) = some 4 by kernel_rfl)) rfl ?_
      have hn := HN.out
      have hP := HP.out.1
      rw [hn] at hP
      have hle : wd * hi ≤ 100 := by have := HT2.out; omega
      obtain ⟨l1, l2, l3⟩ := hP.land HWD.out.1 HHI.out.1 hle
      have hN : N1 = wd * hi - 1 := by have := HN1.out; omega
      have o1 := HF.out.q _ (List.mem_cons_self)
      have o2 := HF.out.q (rwI (.slice (some ⟨g2, 0, none⟩) t k2) t es) (by simp)
      have o3 := HF.out.q (rwI (.slice (some ⟨g3, 0, none⟩) t k3) t ss) (by simp)
      have hsp := HL.out.1.from (T' := fun k => w.heap.size ≤ k) ⟨HF.out.b.os, HF.out.b.tape, HF.out.b.output, HF.out.b.size, fun k _ h2 => HF.out.b.block k (by omega)⟩ (fun k h1 h2 => by omega)
      rw [← hN] at l1 l2 l3
      exact ⟨wd, hi, _, _, _, (os.set 0 0).set N1 1, es, ss, rfl, HWD.out.2, HHI.out.1, HHI.out.2, l1, ⟨fun k hk => ⟨(hP.e k hk).2, (hP.s k hk).2⟩, l2, by rw [← hN]; exact l3⟩, by rw [← hn]; exact o1, by rw [← hn]; exact o2, by rw [← hn]; exact o3, hsp⟩
end Go.Proofs.Ytkjcnkkmhkcddaa
/-
  The lands that the law EnclaveHoused makes, in plain words.
-/
namespace Go.Proofs.Ytkjcnkkmhkcddaa

/-- where a plot lies when rows are columns -/
def phi (wd hi a : Nat) : Nat := a % wd * hi + a / wd
theorem phi_lt {wd hi a : Nat} (hw : 0 < wd) (ha : a < wd * hi) : phi wd hi a < wd * hi ∧ a % wd < wd ∧ a / wd < hi := by
  have h1 := Nat.mod_lt a hw
  have h2 : a / wd < hi := Nat.div_lt_of_lt_mul ha
  have h3 : (a % wd + 1) * hi ≤ wd * hi := Nat.mul_le_mul_right _ h1
  have h4 : (a % wd + 1) * hi = a % wd * hi + hi := Nat.succ_mul _ _
  refine ⟨?_, h1, h2⟩
  unfold phi
  rw [h4] at h3
  exact Nat.lt_of_lt_of_le (Nat.add_lt_add_left h2 _) h3
theorem phi_inj {wd hi a b : Nat} (hw : 0 < wd) (ha : a < wd * hi) (hb : b < wd * hi) (h : phi wd hi a = phi wd hi b) : a = b := by
  obtain ⟨-, -, a3⟩ := phi_lt hw ha
  obtain ⟨-, -, b3⟩ := phi_lt hw hb
  have h1 := at_gr (wd := hi) (y := a % wd) a3
  have h2 := at_gr (wd := hi) (y := b % wd) b3
  unfold phi at h
  rw [h] at h1
  have e1 : a / wd = b / wd := h1.1.symm.trans h2.1
  have e2 : a % wd = b % wd := h1.2.symm.trans h2.2
  rw [← Nat.div_add_mod a wd, ← Nat.div_add_mod b wd, e1, e2]
/-- ahead of plot t: twice the houses, other states, a quarter's turn -/
structure HouL (wd hi t : Nat) (os es ss te ts oo uo ue us : List Int) : Prop where
  l1 : te.length = wd * hi
  l2 : ts.length = wd * hi
  l3 : oo.length = wd * hi
  l4 : uo.length = wd * hi
  l5 : ue.length = wd * hi
  l6 : us.length = wd * hi
  te : ∀ a, a < wd * hi → te.getD a 0 = if a < t then 2 * es.getD a 0 else es.getD a 0
  ts : ∀ a, a < wd * hi → ts.getD a 0 = if a < t then 2 * ss.getD a 0 else ss.getD a 0
  oo : ∀ a, a < wd * hi → oo.getD a 0 = if a < t ∧ os.getD a 0 ≠ -1 then 1 - os.getD a 0 else os.getD a 0
  uo : ∀ a, a < t → uo.getD (phi wd hi a) 0 = os.getD a 0
  ue : ∀ a, a < t → ue.getD (phi wd hi a) 0 = ss.getD a 0
  us : ∀ a, a < t → us.getD (phi wd hi a) 0 = es.getD a 0
theorem HouL.start {wd hi : Nat} {os es ss : List Int} (h : LandG wd hi os es ss) : HouL wd hi 0 os es ss es ss os (zeros (wd * hi)) (zeros (wd * hi)) (zeros (wd * hi)) :=
  ⟨h.le, h.ls, h.lo, zeros_len _, zeros_len _, zeros_len _, fun a _ => by rw [if_neg (Nat.not_lt_zero a)], fun a _ => by rw [if_neg (Nat.not_lt_zero a)], fun a _ => by rw [if_neg (fun h => Nat.not_lt_zero a h.1)], fun a ha => absurd ha (Nat.not_lt_zero a), fun a ha => absurd ha (Nat.not_lt_zero a), fun a ha => absurd ha (Nat.not_lt_zero a)⟩
theorem HouL.step {wd hi t : Nat} {os es ss te ts oo uo ue us oo' : List Int} (hw : 0 < wd) (ht : t < wd * hi) (h : HouL wd hi t os es ss te ts oo uo ue us) (ho : (os.getD t 0 = -1 ∧ oo' = oo) ∨ (os.getD t 0 ≠ -1 ∧ oo' = oo.set t (1 - os.getD t 0))) :
    HouL wd hi (t + 1) os es ss (te.set t (2 * es.getD t 0)) (ts.set t (2 * ss.getD t 0)) oo' (uo.set (phi wd hi t) (os.getD t 0)) (ue.set (phi wd hi t) (ss.getD t 0)) (us.set (phi wd hi t) (es.getD t 0)) := by
  have two : ∀ (l m : List Int), l.length = wd * hi → (∀ a, a < wd * hi → l.getD a 0 = if a < t then 2 * m.getD a 0 else m.getD a 0) → ∀ a, a < wd * hi → (l.set t (2 * m.getD t 0)).getD a 0 = if a < t + 1 then 2 * m.getD a 0 else m.getD a 0 := fun l m hl hh a ha => by
    rw [getD_setI]
    by_cases e : a = t
    · subst e; rw [if_pos ⟨rfl, by rw [hl]; exact ha⟩, if_pos (by omega)]
    · rw [if_neg (fun h => e h.1.symm), hh a ha]
      by_cases e2 : a < t
      · rw [if_pos e2, if_pos (by omega)]
      · rw [if_neg e2, if_neg (by omega)]
  have put : ∀ (l m : List Int), l.length = wd * hi → (∀ a, a < t → l.getD (phi wd hi a) 0 = m.getD a 0) → ∀ a, a < t + 1 → (l.set (phi wd hi t) (m.getD t 0)).getD (phi wd hi a) 0 = m.getD a 0 := fun l m hl hh a ha => by
    rw [getD_setI]
    by_cases e : a = t
    · subst e; rw [if_pos ⟨rfl, by rw [hl]; exact (phi_lt hw ht).1⟩]
    · rw [if_neg (fun h => e (phi_inj hw (by omega) ht h.1.symm)), hh a (by omega)]
  refine ⟨by rw [List.length_set, h.l1], by rw [List.length_set, h.l2], ?_, by rw [List.length_set, h.l4], by rw [List.length_set, h.l5], by rw [List.length_set, h.l6], two _ _ h.l1 h.te, two _ _ h.l2 h.ts, fun a ha => ?_, put _ _ h.l4 h.uo, put _ _ h.l5 h.ue, put _ _ h.l6 h.us⟩
  · rcases ho with ⟨-, rfl⟩ | ⟨-, rfl⟩
    · exact h.l3
    · rw [List.length_set, h.l3]
  · rcases ho with ⟨e1, rfl⟩ | ⟨e1, rfl⟩
    · rw [h.oo a ha]
      by_cases e : a = t
      · subst e; rw [if_neg (fun h => h.2 e1), if_neg (fun h => h.2 e1)]
      · by_cases e2 : a < t ∧ os.getD a 0 ≠ -1
        · rw [if_pos e2, if_pos ⟨by omega, e2.2⟩]
        · rw [if_neg e2, if_neg (fun h => e2 ⟨by omega, h.2⟩)]
    · rw [getD_setI]
      by_cases e : a = t
      · subst e; rw [if_pos ⟨rfl, by rw [h.l3]; exact ha⟩, if_pos ⟨by omega, e1⟩]
      · rw [if_neg (fun h => e h.1.symm), h.oo a ha]
        by_cases e2 : a < t ∧ os.getD a 0 ≠ -1
        · rw [if_pos e2, if_pos ⟨by omega, e2.2⟩]
        · rw [if_neg e2, if_neg (fun h => e2 ⟨by omega, h.2⟩)]
section
variable {wd hi : Nat} {os es ss te ts oo uo ue us : List Int}
/-- what is at plot (x, y) of the land that is turned -/
theorem HouL.quarter (h : HouL wd hi (wd * hi) os es ss te ts oo uo ue us) : Quarter wd hi (fun k => os.getD k 0) (fun k => uo.getD k 0) (fun k => es.getD k 0) (fun k => ue.getD k 0) (fun k => ss.getD k 0) (fun k => us.getD k 0) := by
  have key : ∀ x y, x < wd → y < hi → y * wd + x < wd * hi ∧ phi wd hi (y * wd + x) = x * hi + y := fun x y hx hy => by
    have h1 := at_gr (wd := wd) (y := y) hx
    have h2 : (y + 1) * wd ≤ hi * wd := Nat.mul_le_mul_right _ hy
    have h3 : (y + 1) * wd = y * wd + wd := Nat.succ_mul _ _
    rw [h3, Nat.mul_comm hi] at h2
    refine ⟨Nat.lt_of_lt_of_le (Nat.add_lt_add_left hx _) h2, ?_⟩
    unfold phi
    rw [h1.1, h1.2]
  exact ⟨fun x y hx hy => by have := h.uo _ (key x y hx hy).1; rw [(key x y hx hy).2] at this; exact this,
    fun x y hx hy => by have := h.ue _ (key x y hx hy).1; rw [(key x y hx hy).2] at this; exact this,
    fun x y hx hy => by have := h.us _ (key x y hx hy).1; rw [(key x y hx hy).2] at this; exact this⟩
theorem grid_at {wd hi k : Nat} (hh : 0 < hi) (hk : k < wd * hi) : k / hi < wd ∧ k % hi < hi ∧ k = k / hi * hi + k % hi ∧ k % hi * wd + k / hi < wd * hi := by
  have h1 := Nat.mod_lt k hh
  have h2 : k / hi < wd := Nat.div_lt_of_lt_mul (by rw [Nat.mul_comm]; exact hk)
  have h3 := Nat.div_add_mod k hi
  rw [Nat.mul_comm] at h3
  have h4 : (k % hi + 1) * wd ≤ hi * wd := Nat.mul_le_mul_right _ h1
  have h5 : (k % hi + 1) * wd = k % hi * wd + wd := Nat.succ_mul _ _
  rw [h5, Nat.mul_comm hi] at h4
  exact ⟨h2, h1, h3.symm, Nat.lt_of_lt_of_le (Nat.add_lt_add_left h2 _) h4⟩
theorem HouL.turned (h : HouL wd hi (wd * hi) os es ss te ts oo uo ue us) (L : LandG wd hi os es ss) : LandG hi wd uo ue us := by
  have Q := h.quarter
  have hc : hi * wd = wd * hi := Nat.mul_comm _ _
  have hw := L.w1
  have hh := L.h1
  -- at k of the land that is turned lies plot a of the land
  have at' : ∀ k, k < wd * hi → ∃ a, a < wd * hi ∧ a % wd = k / hi ∧ a / wd = k % hi ∧ uo.getD k 0 = os.getD a 0 ∧ ue.getD k 0 = ss.getD a 0 ∧ us.getD k 0 = es.getD a 0 := fun k hk => by
    obtain ⟨a1, a2, a3, a4⟩ := grid_at hh hk
    have h1 := at_gr (wd := wd) (y := k % hi) a1
    have q1 := Q.o _ _ a1 a2
    have q2 := Q.e _ _ a1 a2
    have q3 := Q.s _ _ a1 a2
    rw [← a3] at q1 q2 q3
    exact ⟨_, a4, h1.1, h1.2, q1, q2, q3⟩
  have there : ∀ a, a < wd * hi → ∃ k, k < wd * hi ∧ uo.getD k 0 = os.getD a 0 := fun a ha => ⟨_, (phi_lt hw ha).1, h.uo a ha⟩
  refine ⟨L.h1, L.w1, by rw [hc]; exact L.n1, by rw [hc]; exact h.l4, by rw [hc]; exact h.l5, by rw [hc]; exact h.l6, fun k hk => ?_, fun k hk => ?_, fun k hk => ?_, fun k hk he => ?_, fun k hk he => ?_, ?_, ?_⟩
  · rw [hc] at hk; obtain ⟨a, ha, -, -, e, -, -⟩ := at' k hk; rw [e]; exact L.o a ha
  · rw [hc] at hk; obtain ⟨a, ha, -, -, -, e, -⟩ := at' k hk; rw [e]; exact L.s a ha
  · rw [hc] at hk; obtain ⟨a, ha, -, -, -, -, e⟩ := at' k hk; rw [e]; exact L.e a ha
  · rw [hc] at hk
    obtain ⟨a, ha, -, a2, -, e, -⟩ := at' k hk
    rw [e]
    refine L.se a ha ?_
    have h1 := Nat.div_add_mod a wd
    have h2 : a / wd + 1 = hi := by rw [a2]; exact he
    have h3 : wd * (a / wd + 1) = wd * (a / wd) + wd := Nat.mul_succ _ _
    rw [h2] at h3
    omega
  · rw [hc] at hk he
    obtain ⟨a, ha, a1, -, -, -, e⟩ := at' k hk
    rw [e]
    refine L.ee a ha ?_
    obtain ⟨b1, b2, b3, -⟩ := grid_at hh hk
    rw [a1]
    apply Classical.byContradiction
    intro hne
    have h1 : k / hi + 2 ≤ wd := by omega
    have h2 : (k / hi + 2) * hi ≤ wd * hi := Nat.mul_le_mul_right _ h1
    have h3 : (k / hi + 2) * hi = k / hi * hi + hi + hi := by rw [Nat.add_mul]; omega
    omega
  · obtain ⟨a, ha, e⟩ := L.a
    obtain ⟨k, hk, e2⟩ := there a ha
    exact ⟨k, by rw [hc]; exact hk, by rw [e2, e]⟩
  · obtain ⟨a, ha, e⟩ := L.b
    obtain ⟨k, hk, e2⟩ := there a ha
    exact ⟨k, by rw [hc]; exact hk, by rw [e2, e]⟩
theorem HouL.twice (h : HouL wd hi (wd * hi) os es ss te ts oo uo ue us) (L : LandG wd hi os es ss) (hx : ∀ k, k < wd * hi → es.getD k 0 ≤ 11 ∧ ss.getD k 0 ≤ 11) : LandG wd hi os te ts ∧ (∀ a, a < wd * hi → te.getD a 0 = 2 * es.getD a 0) ∧ ∀ a, a < wd * hi → ts.getD a 0 = 2 * ss.getD a 0 := by
  have h1 : ∀ a, a < wd * hi → te.getD a 0 = 2 * es.getD a 0 := fun a ha => by rw [h.te a ha, if_pos ha]
  have h2 : ∀ a, a < wd * hi → ts.getD a 0 = 2 * ss.getD a 0 := fun a ha => by rw [h.ts a ha, if_pos ha]
  refine ⟨⟨L.w1, L.h1, L.n1, L.lo, h.l1, h.l2, L.o, fun k hk => ?_, fun k hk => ?_, fun k hk he => ?_, fun k hk he => ?_, L.a, L.b⟩, h1, h2⟩
  · rw [h1 k hk]; have := L.e k hk; have := (hx k hk).1; omega
  · rw [h2 k hk]; have := L.s k hk; have := (hx k hk).2; omega
  · rw [h1 k hk, L.ee k hk he]; rfl
  · rw [h2 k hk, L.se k hk he]; rfl
theorem HouL.other (h : HouL wd hi (wd * hi) os es ss te ts oo uo ue us) (L : LandG wd hi os es ss) : LandG wd hi oo es ss ∧ ∀ a, a < wd * hi → (os.getD a 0 = -1 ∧ oo.getD a 0 = -1) ∨ (os.getD a 0 = 0 ∧ oo.getD a 0 = 1) ∨ (os.getD a 0 = 1 ∧ oo.getD a 0 = 0) := by
  have h1 : ∀ a, a < wd * hi → (os.getD a 0 = -1 ∧ oo.getD a 0 = -1) ∨ (os.getD a 0 = 0 ∧ oo.getD a 0 = 1) ∨ (os.getD a 0 = 1 ∧ oo.getD a 0 = 0) := fun a ha => by
    have h2 := h.oo a ha
    have h3 := L.o a ha
    by_cases e : os.getD a 0 = -1
    · rw [if_neg (fun h => h.2 e)] at h2; omega
    · rw [if_pos ⟨ha, e⟩] at h2; omega
  refine ⟨⟨L.w1, L.h1, L.n1, h.l3, L.le, L.ls, fun k hk => by have := h1 k hk; omega, L.e, L.s, L.ee, L.se, ?_, ?_⟩, h1⟩
  · obtain ⟨k, hk, e⟩ := L.b
    exact ⟨k, hk, by have := h1 k hk; omega⟩
  · obtain ⟨k, hk, e⟩ := L.a
    exact ⟨k, hk, by have := h1 k hk; omega⟩
/-- more houses at one plot -/
theorem LandG.rich (L : LandG wd hi os es ss) {es1 : List Int} {u : Int} {p : Nat} (hx : ∀ k, k < wd * hi → es.getD k 0 ≤ 11) (hl : es1.length = wd * hi) (hu : 0 ≤ u ∧ u ≤ 50) (hp : p % wd + 1 = wd → u = 0) (h : ∀ a, a < wd * hi → es1.getD a 0 = es.getD a 0 + if a = p then u else 0) : LandG wd hi os es1 ss := by
  refine ⟨L.w1, L.h1, L.n1, L.lo, hl, L.ls, L.o, fun k hk => ?_, L.s, fun k hk he => ?_, L.se, L.a, L.b⟩
  · rw [h k hk]; have := L.e k hk; have := hx k hk; split <;> omega
  · rw [h k hk, L.ee k hk he]
    by_cases e : k = p
    · rw [if_pos e, hp (by rw [← e]; exact he)]; rfl
    · rw [if_neg e]; rfl
/-- a plot less that is disputed -/
theorem LandG.sure (L : LandG wd hi os es ss) {os1 : List Int} (hl : os1.length = wd * hi) (h : ∀ a, a < wd * hi → os1.getD a 0 = os.getD a 0 ∨ (os.getD a 0 = -1 ∧ (os1.getD a 0 = 0 ∨ os1.getD a 0 = 1))) : LandG wd hi os1 es ss := by
  refine ⟨L.w1, L.h1, L.n1, hl, L.le, L.ls, fun k hk => ?_, L.e, L.s, L.ee, L.se, ?_, ?_⟩
  · have := h k hk; have := L.o k hk; omega
  · obtain ⟨k, hk, e⟩ := L.a
    exact ⟨k, hk, by have := h k hk; omega⟩
  · obtain ⟨k, hk, e⟩ := L.b
    exact ⟨k, hk, by have := h k hk; omega⟩
theorem sm_bound {f : Nat → Int} {b : Int} : ∀ n : Nat, (∀ a, a < n → 0 ≤ f a ∧ f a ≤ b) → 0 ≤ sm n f ∧ sm n f ≤ n * b
  | 0, _ => by simp [sm]
  | n + 1, h => by
    have h1 := sm_bound n (fun a ha => h a (by omega))
    have h2 := h n (by omega)
    have h3 : ((n + 1 : Nat) : Int) * b = n * b + b := by rw [Int.natCast_add, Int.add_mul]; omega
    rw [sm, h3]; omega
theorem IsMin.bound (L : LandG wd hi os es ss) {own : Nat → Int} {c : Int} (h : IsMin (wd * hi) wd own (fun k => es.getD k 0) (fun k => ss.getD k 0) c) : 0 ≤ c ∧ c ≤ 200000 := by
  obtain ⟨D, -, e⟩ := h.ex
  have h1 := sm_bound (f := fun a => (if a % wd + 1 < wd ∧ D (a + 1) ≠ D a then es.getD a 0 else 0) + (if a + wd < wd * hi ∧ D (a + wd) ≠ D a then ss.getD a 0 else 0)) (b := 2000) (wd * hi) (fun a ha => by
    have := L.e a ha; have := L.s a ha
    split <;> split <;> omega)
  have h2 := L.n1
  rw [← e]
  have h3 : 0 ≤ cutES (wd * hi) wd (fun k => es.getD k 0) (fun k => ss.getD k 0) D := h1.1
  have h4 : cutES (wd * hi) wd (fun k => es.getD k 0) (fun k => ss.getD k 0) D ≤ ((wd * hi : Nat) : Int) * 2000 := h1.2
  refine ⟨h3, Int.le_trans h4 ?_⟩
  generalize wd * hi = m at *
  omega
end
end Go.Proofs.Ytkjcnkkmhkcddaa
/-
  More houses, fewer disputed plots, twice the houses, states changed, a quarter's turn: the contract of the law EnclaveHoused.
-/
namespace Go.Proofs.Ytkjcnkkmhkcddaa
open Go.RowKit Go.Shelf
open Lim

attribute [local go_sem] Oper.semAt_some

theorem cloneLand_n {n : Nat} {wd : Int} {ov ev sv : Value} {os es ss : List Int} {W : World} (hl : os.length = n ∧ es.length = n ∧ ss.length = n) (hn : n ≤ 1000) (hv : RS W.heap.size W ov os.length (ints os)) (he : RS W.heap.size W ev es.length (ints es)) (hs : RS W.heap.size W sv ss.length (ints ss)) :
    Calls Try.prog 25 #[.agg #[.int .i64 wd, ov, ev, sv]] W fun e w' => ∃ v1 v2 v3, e = .returned (.agg #[.int .i64 wd, v1, v2, v3]) ∧ (rwI v1 n os).Owned w' W.heap.size ∧ (rwI v2 n es).Owned w' W.heap.size ∧ (rwI v3 n ss).Owned w' W.heap.size ∧ [rwI v1 n os, rwI v2 n es, rwI v3 n ss].Pairwise Row.Apart ∧ Below W.heap.size W w' := by
  have h := cloneLand_any (wd := wd) (w := W) (by omega) (Nat.le_refl _) hv he hs
  rw [hl.1, hl.2.1, hl.2.2] at h
  exact h
set_option maxRecDepth 20000 in
set_option maxHeartbeats 8000000 in
theorem housedl_any {B : Nat} {cv : Value} {l : List Int} {wh mo : Int} {w : World} (hB : B ≤ w.heap.size) (hv : RS B w cv l.length (u8s l)) (hu : ∀ x ∈ l, 0 ≤ x ∧ x ≤ 255) :
    Calls Try.prog 4 #[cv, .int .i64 wh, .int .i64 mo] w fun e w' => e = .returned (.bool true) ∧ Below w.heap.size w w' := by
  have CO := Lib.hid (of_any hB hv hu)
  obtain ⟨xa, xc, rfl, -⟩ := hv
  clear hB hu
  go_enter Try.func4, Try.ntmps4
  go_wp2_with fail
  refine CO.out.mono ?_
  rintro e w1 ⟨rfl, hdk, hb, hz⟩
  have CM := Lib.hid (landed_any (C := 6) (R := 6) (w := w1) (by omega) (by omega) hdk (by omega))
  have HB1 := Lib.hid hb
  clear hdk hb hz CO
  go_wp2_with fail
  refine CM.out.mono ?_
  rintro e w2 ⟨wd, hi, v1, v2, v3, os, es, ss, rfl, hwdC, hhi2, hhiR, hL, hLx, o1, o2, o3, hs⟩
  have HL : Hid (LandG wd hi os es ss ∧ wd ≤ 6 ∧ 2 ≤ hi ∧ hi ≤ 6 ∧ (∀ k, k < wd * hi → es.getD k 0 ≤ 11 ∧ ss.getD k 0 ≤ 11) ∧ os.getD 0 0 = 0 ∧ os.getD (wd * hi - 1) 0 = 1) := Lib.hid ⟨hL, hwdC, hhi2, hhiR, hLx⟩
  obtain ⟨n, hn⟩ : ∃ n, n = wd * hi := ⟨_, rfl⟩
  rw [← hn] at o1 o2 o3
  have hn2 : 2 ≤ n := by have h := Nat.mul_le_mul (n₁ := 1) (n₂ := wd) (m₁ := 2) (m₂ := hi) hL.w1 hhi2; omega
  obtain ⟨g1, k1, rfl⟩ : ∃ g cap, v1 = .slice (some ⟨g, 0, none⟩) n cap := form_pos (r := rwI v1 n os) o1 (show 0 < n by omega)
  obtain ⟨g2, k2, rfl⟩ : ∃ g cap, v2 = .slice (some ⟨g, 0, none⟩) n cap := form_pos (r := rwI v2 n es) o2 (show 0 < n by omega)
  obtain ⟨g3, k3, rfl⟩ : ∃ g cap, v3 = .slice (some ⟨g, 0, none⟩) n cap := form_pos (r := rwI v3 n ss) o3 (show 0 < n by omega)
  have HM2 : Hid (Mem w w.heap.size [rwI (.slice (some ⟨g1, 0, none⟩) n k1) n os, rwI (.slice (some ⟨g2, 0, none⟩) n k2) n es, rwI (.slice (some ⟨g3, 0, none⟩) n k3) n ss] [] [] w2) := Lib.hid (by
    have hb2 : Below w.heap.size w w2 := HB1.out.trans (hs.below HB1.out.size (fun k e => by omega))
    exact Mem.rowsR hb2 hb2.size (Row.three (owns_mono o1 HB1.out.size) (owns_mono o2 HB1.out.size) (owns_mono o3 HB1.out.size)))
  have hwd1 : 1 ≤ wd := hL.w1
  have hwdC' : wd ≤ 6 := hwdC
  have hnC : n ≤ 100 := by rw [hn]; exact hL.n1
  have HN := Lib.hid hn
  clear hs hn o1 o2 o3 hL hLx hhi2 hhiR hwdC CM HB1
  go_upto_region 2 with (fail)
  have HM3 : Hid (Mem w w.heap.size [rwI (.slice (some ⟨g1, 0, none⟩) n k1) n os, rwI (.slice (some ⟨g2, 0, none⟩) n k2) n es, rwI (.slice (some ⟨g3, 0, none⟩) n k3) n ss] [] [(w2.heap.size, .cells #[.int .i64 wd, .slice (some ⟨g1, 0, none⟩) n k1, .slice (some ⟨g2, 0, none⟩) n k2, .slice (some ⟨g3, 0, none⟩) n k3] 44 (0, 0))] (w2.alloc (.cells #[.int .i64 wd, .slice (some ⟨g1, 0, none⟩) n k1, .slice (some ⟨g2, 0, none⟩) n k2, .slice (some ⟨g3, 0, none⟩) n k3] 44))) := Lib.hid (HM2.out.lay _)
  obtain ⟨q, hq⟩ : ∃ q, q = w2.heap.size := ⟨_, rfl⟩
  rw [← hq] at HM3 ⊢
  generalize w2.alloc (.cells #[.int .i64 wd, .slice (some ⟨g1, 0, none⟩) n k1, .slice (some ⟨g2, 0, none⟩) n k2, .slice (some ⟨g3, 0, none⟩) n k3] 44) = w3 at HM3 ⊢
  clear HM2 hq
  obtain ⟨c0, c1, c2, c3⟩ := HM3.out.box4 (q := q) (t := 44) (List.mem_singleton.2 rfl)
  have HL2 : Hid (2 ≤ n) := Lib.hid hn2
  have HFP := Lib.hid (fold_nat (v := wh) (n := n) w3 (by omega))
  have HFU := Lib.hid (fold_nat (v := mo) (n := 50) w3 (by omega))
  go_wp2_with fail
  refine HFP.out.mono ?_
  rintro e w5 ⟨p, rfl, hp, rfl⟩
  have HP := Lib.hid hp
  clear hp HFP
  go_wp2_with fail
  refine HFU.out.mono ?_
  rintro e w5 ⟨up, rfl, hup, rfl⟩
  have HUP := Lib.hid hup
  clear hup HFU
  have CD := Lib.hid (Divide_any (B := w3.heap.size) (wd := wd) (os := os) (es := es) (ss := ss) (w := w3) (by rw [HL.out.1.lo, HL.out.1.le, HL.out.1.ls, ← HN.out]; omega) (Nat.le_refl _) (HM3.out.rsI (v := .slice (some ⟨g1, 0, none⟩) n k1) (n := n) (.inl (.head _)) (by rw [HL.out.1.lo, HN.out])) (HM3.out.rsI (v := .slice (some ⟨g2, 0, none⟩) n k2) (n := n) (.inl (.tail _ (.head _))) (by rw [HL.out.1.le, HN.out])) (HM3.out.rsI (v := .slice (some ⟨g3, 0, none⟩) n k3) (n := n) (.inl (.tail _ (.tail _ (.head _)))) (by rw [HL.out.1.ls, HN.out])))
  go_wp2_with fail
  refine CD.out.mono ?_
  rintro e w4 h
  obtain ⟨hb4, M0, u0, best, rfl, -, -, -, hmin⟩ := h.min HL.out.1
  have HM4 := Lib.hid (HM3.out.grow hb4)
  have HB0 := Lib.hid hmin
  have HLE : Hid ((os.length = n ∧ es.length = n ∧ ss.length = n) ∧ n ≤ 1000 ∧ 2 ≤ n) := Lib.hid (by rw [HL.out.1.lo, HL.out.1.le, HL.out.1.ls, ← HN.out]; omega)
  clear hb4 hmin CD HM3 c0 c1 c2 c3 h
  go_upto_region 7 with (fail)
  have hC : (fun W => W.cell? ⟨q, 0, none⟩ = some (.int .i64 wd) ∧ W.cell? ⟨q, 1, none⟩ = some (.slice (some ⟨g1, 0, none⟩) n k1) ∧ W.cell? ⟨q, 2, none⟩ = some (.slice (some ⟨g2, 0, none⟩) n k2) ∧ W.cell? ⟨q, 3, none⟩ = some (.slice (some ⟨g3, 0, none⟩) n k3)) w4.drew := HM4.out.drew.box4 (q := q) (t := 44) (List.mem_singleton.2 rfl)
  refine Lim.regC' (fun W => W.cell? ⟨q, 0, none⟩ = some (.int .i64 wd) ∧ W.cell? ⟨q, 1, none⟩ = some (.slice (some ⟨g1, 0, none⟩) n k1) ∧ W.cell? ⟨q, 2, none⟩ = some (.slice (some ⟨g2, 0, none⟩) n k2) ∧ W.cell? ⟨q, 3, none⟩ = some (.slice (some ⟨g3, 0, none⟩) n k3)) [] #[false, false, false, false, false, false, false, false, false, false, false, false, false, false, false, false] (by kernel_rfl) rfl ?_
  refine Lim.stepR 0 (fun _ => trivial) rfl (by kernel_rfl) (fun _ _ _ _ h => h) hC rfl ?_; apply Exists.intro; refine ⟨?_, ?_⟩
  · rintro w ⟨r0, r1, r2, r3⟩; go_simp; try with_reducible rfl
  simp only [Act.put, List.setIfInBounds_toArray, List.set_cons_succ, List.set_cons_zero]
  refine Lim.stepR 2 (fun _ => trivial) rfl (by kernel_rfl) (fun _ _ _ _ h => h) hC rfl ?_; apply Exists.intro; refine ⟨?_, ?_⟩
  · rintro w ⟨r0, r1, r2, r3⟩; go_simp; try with_reducible rfl
  simp only [Act.put, List.setIfInBounds_toArray, List.set_cons_succ, List.set_cons_zero]
  refine Lim.stepR 4 (fun _ => trivial) rfl (by kernel_rfl) (fun _ _ _ _ h => h) hC rfl ?_; apply Exists.intro; refine ⟨?_, ?_⟩
  · rintro w ⟨r0, r1, r2, r3⟩; go_simp; try with_reducible rfl
  simp only [Act.put, List.setIfInBounds_toArray, List.set_cons_succ, List.set_cons_zero]
  refine Lim.stepR 6 (fun _ => trivial) rfl (by kernel_rfl) (fun _ _ _ _ h => h) hC rfl ?_; apply Exists.intro; refine ⟨?_, ?_⟩
  · rintro w ⟨r0, r1, r2, r3⟩; go_simp; try with_reducible rfl
  simp only [Act.put, List.setIfInBounds_toArray, List.set_cons_succ, List.set_cons_zero]
  clear hC
  refine Lim.parC [1, 3, 5, 7, 8, 9, 10, 11, 12, 13, 14, 15] (fun done a W => ∃ x56 x58 x60 x62 t14 t15 t16 t17 f11 f12 f13 f21 f22 f23 f31 f32 f33 f41 f42 f43 p1 p2 p3 p4, a = { tmps := #[.slice xa l.length xc, .int .i64 wh, .int .i64 mo, undef, undef, undef, .bool false, .pointer (some ⟨q, 0, none⟩), .int .i64 n, .int .i64 p, .int .i64 up, u0, .int .i64 best, .int .i64 0, t14, t15, t16, t17, undef, undef, undef, undef, undef, undef, undef, undef, undef, undef, undef, undef, undef, undef, undef, undef, undef, undef, .slice xa l.length xc, .pointer (some ⟨w.heap.size, 0, none⟩), .agg #[.int .i64 wd, .slice (some ⟨g1, 0, none⟩) n k1, .slice (some ⟨g2, 0, none⟩) n k2, .slice (some ⟨g3, 0, none⟩) n k3], .pointer (some ⟨q, 1, none⟩), .slice (some ⟨g1, 0, none⟩) n k1, .int .i64 n, .int .i64 wh, .int .i64 n, .int .i64 p, .int .i64 mo, .int .i64 up, .tuple #[u0, .int .i64 best, .int .i64 0], .agg #[.int .i64 wd, .slice (some ⟨g1, 0, none⟩) n k1, .slice (some ⟨g2, 0, none⟩) n k2, .slice (some ⟨g3, 0, none⟩) n k3], .tuple #[u0, .int .i64 best, .int .i64 0], u0, .int .i64 best, .int .i64 0, .int .i64 0, .bool false, .agg #[.int .i64 wd, .slice (some ⟨g1, 0, none⟩) n k1, .slice (some ⟨g2, 0, none⟩) n k2, .slice (some ⟨g3, 0, none⟩) n k3], x56, .agg #[.int .i64 wd, .slice (some ⟨g1, 0, none⟩) n k1, .slice (some ⟨g2, 0, none⟩) n k2, .slice (some ⟨g3, 0, none⟩) n k3], x58, .agg #[.int .i64 wd, .slice (some ⟨g1, 0, none⟩) n k1, .slice (some ⟨g2, 0, none⟩) n k2, .slice (some ⟨g3, 0, none⟩) n k3], x60, .agg #[.int .i64 wd, .slice (some ⟨g1, 0, none⟩) n k1, .slice (some ⟨g2, 0, none⟩) n k2, .slice (some ⟨g3, 0, none⟩) n k3], x62, undef, undef, undef, undef, undef, undef, undef, undef, undef, undef, undef, undef, undef, undef, undef, undef, undef, undef, undef, undef, undef, undef, undef, undef, undef, undef, undef, undef, undef, undef, undef, undef, undef, undef, undef, undef, undef, undef, undef, undef, undef, undef, undef, undef, undef, undef, undef, undef, undef, undef, undef, undef, undef, undef, undef, undef, undef, undef, undef, undef, undef, undef, undef, undef, undef, undef, undef, undef, undef, undef, undef, undef, undef, undef, undef, undef, undef, undef, undef, undef, undef, undef, undef, undef, undef, undef, undef, undef, undef, undef, undef, undef, undef, undef, undef, undef, undef, undef, undef, undef, undef, undef, undef, undef, undef, undef, undef, undef, undef, undef, undef, undef, undef, undef, undef, undef, undef, undef, undef, undef, undef, undef, undef, undef, undef, undef, undef, undef, undef, undef, undef, undef, undef, undef, undef, undef, undef, undef, undef, undef, undef, undef, undef, undef, undef, undef, undef, undef, undef, undef, undef, undef, undef, undef, undef, undef, undef, undef, undef, undef, undef, undef, undef, undef, undef, undef, undef, undef, undef, undef, undef, undef, undef, undef, undef, undef, undef, undef, undef, undef, undef, undef, undef, undef, undef, undef, undef, undef, undef, undef, undef, undef, undef, undef, undef], defers := [] } ∧ Mem w w.heap.size ([rwI (.slice (some ⟨g1, 0, none⟩) n k1) n os, rwI (.slice (some ⟨g2, 0, none⟩) n k2) n es, rwI (.slice (some ⟨g3, 0, none⟩) n k3) n ss]) (onL (done 1) [rwI f11 n os, rwI f12 n es, rwI f13 n ss] ++ (onL (done 3) [rwI f21 n os, rwI f22 n es, rwI f23 n ss] ++ (onL (done 5) [rwI f31 n os, rwI f32 n es, rwI f33 n ss] ++ (onL (done 7) [rwI f41 n os, rwI f42 n es, rwI f43 n ss] ++ ([]))))) (onX (done 8) p1 (cond (done 12) (Obj.cells #[.int .i64 wd, f11, f12, f13] 44 (0, 0)) (Obj.cells #[.int .i64 0, .slice none 0 0, .slice none 0 0, .slice none 0 0] 44 (0, 0))) ++ (onX (done 9) p2 (cond (done 13) (Obj.cells #[.int .i64 wd, f21, f22, f23] 44 (0, 0)) (Obj.cells #[.int .i64 0, .slice none 0 0, .slice none 0 0, .slice none 0 0] 44 (0, 0))) ++ (onX (done 10) p3 (cond (done 14) (Obj.cells #[.int .i64 wd, f31, f32, f33] 44 (0, 0)) (Obj.cells #[.int .i64 0, .slice none 0 0, .slice none 0 0, .slice none 0 0] 44 (0, 0))) ++ (onX (done 11) p4 (cond (done 15) (Obj.cells #[.int .i64 wd, f41, f42, f43] 44 (0, 0)) (Obj.cells #[.int .i64 0, .slice none 0 0, .slice none 0 0, .slice none 0 0] 44 (0, 0))) ++ ([(q, Obj.cells #[.int .i64 wd, .slice (some ⟨g1, 0, none⟩) n k1, .slice (some ⟨g2, 0, none⟩) n k2, .slice (some ⟨g3, 0, none⟩) n k3] 44 (0, 0))]))))) W ∧ (done 1 = true → x56 = .agg #[.int .i64 wd, f11, f12, f13]) ∧ (done 3 = true → x58 = .agg #[.int .i64 wd, f21, f22, f23]) ∧ (done 5 = true → x60 = .agg #[.int .i64 wd, f31, f32, f33]) ∧ (done 7 = true → x62 = .agg #[.int .i64 wd, f41, f42, f43]) ∧ (done 8 = true → t14 = .pointer (some ⟨p1, 0, none⟩)) ∧ (done 9 = true → t15 = .pointer (some ⟨p2, 0, none⟩)) ∧ (done 10 = true → t16 = .pointer (some ⟨p3, 0, none⟩)) ∧ (done 11 = true → t17 = .pointer (some ⟨p4, 0, none⟩)) ∧ (done 12 = true → done 1 = true ∧ done 8 = true) ∧ (done 13 = true → done 3 = true ∧ done 9 = true) ∧ (done 14 = true → done 5 = true ∧ done 10 = true) ∧ (done 15 = true → done 7 = true ∧ done 11 = true)) (fun _ => trivial) (by kernel_rfl) rfl rfl ?hC ?step ?fin ⟨_, _, _, _, _, _, _, _, undef, undef, undef, undef, undef, undef, undef, undef, undef, undef, undef, undef, 0, 0, 0, 0, rfl, HM4.out.drew, fun h => (by cases h), fun h => (by cases h), fun h => (by cases h), fun h => (by cases h), fun h => (by cases h), fun h => (by cases h), fun h => (by cases h), fun h => (by cases h), fun h => (by cases h), fun h => (by cases h), fun h => (by cases h), fun h => (by cases h)⟩
  case hC =>
    rintro done a W ⟨x56, x58, x60, x62, t14, t15, t16, t17, f11, f12, f13, f21, f22, f23, f31, f32, f33, f41, f42, f43, p1, p2, p3, p4, rfl, H, e1, e3, e5, e7, e8, e9, e10, e11, e12, e13, e14, e15⟩
    exact H.box4 (q := q) (t := 44) (by simp)
  case step =>
    intro i o hi ho done a W hd hdep hS K hK
    obtain ⟨x56, x58, x60, x62, t14, t15, t16, t17, f11, f12, f13, f21, f22, f23, f31, f32, f33, f41, f42, f43, p1, p2, p3, p4, rfl, H, e1, e3, e5, e7, e8, e9, e10, e11, e12, e13, e14, e15⟩ := hS
    simp only [List.mem_cons, List.not_mem_nil, or_false] at hi
    rcases hi with rfl | rfl | rfl | rfl | rfl | rfl | rfl | rfl | rfl | rfl | rfl | rfl
    · cases ho
      clear hdep
      have n12 : done 12 = false := by
        cases h : done 12 with
        | false => rfl
        | true => exact absurd (e12 h).1 (by rw [hd]; decide)
      rw [onL_no hd, n12] at H
      go_simp
      refine ⟨rfl, (callsIn_wide.2 (cloneLand_n (wd := wd) (os := os) (es := es) (ss := ss) (n := n) HLE.out.1 HLE.out.2.1 (H.rsI (v := .slice (some ⟨g1, 0, none⟩) n k1) (n := n) (.inl (.head _)) HLE.out.1.1) (H.rsI (v := .slice (some ⟨g2, 0, none⟩) n k2) (n := n) (.inl (.tail _ (.head _))) HLE.out.1.2.1) (H.rsI (v := .slice (some ⟨g3, 0, none⟩) n k3) (n := n) (.inl (.tail _ (.tail _ (.head _)))) HLE.out.1.2.2))).mono ?_⟩
      rintro e W' ⟨c1, c2, c3, rfl, o1, o2, o3, hap, hb⟩
      have H2 := (H.addQs hb (P := [rwI (c1) n os, rwI (c2) n es, rwI (c3) n ss]) (Row.three o1 o2 o3) hap).permQ (List.Perm.refl _)
      refine hK _ _ ?_
      refine ⟨_, x58, x60, x62, t14, t15, t16, t17, c1, c2, c3, f21, f22, f23, f31, f32, f33, f41, f42, f43, p1, p2, p3, p4, rfl, ?_, (fun _ => rfl), (fun h => by simpa using e3 (by simpa using h)), (fun h => by simpa using e5 (by simpa using h)), (fun h => by simpa using e7 (by simpa using h)), (fun h => by simpa using e8 (by simpa using h)), (fun h => by simpa using e9 (by simpa using h)), (fun h => by simpa using e10 (by simpa using h)), (fun h => by simpa using e11 (by simpa using h)), (fun h => absurd (show done 12 = true by simpa using h) (by rw [n12]; decide)), (fun h => by simpa using e13 (by simpa using h)), (fun h => by simpa using e14 (by simpa using h)), (fun h => by simpa using e15 (by simpa using h))⟩
      show Mem w w.heap.size ([rwI (.slice (some ⟨g1, 0, none⟩) n k1) n os, rwI (.slice (some ⟨g2, 0, none⟩) n k2) n es, rwI (.slice (some ⟨g3, 0, none⟩) n k3) n ss]) (onL (true) [rwI (c1) n os, rwI (c2) n es, rwI (c3) n ss] ++ (onL (done 3) [rwI f21 n os, rwI f22 n es, rwI f23 n ss] ++ (onL (done 5) [rwI f31 n os, rwI f32 n es, rwI f33 n ss] ++ (onL (done 7) [rwI f41 n os, rwI f42 n es, rwI f43 n ss] ++ ([]))))) (onX (done 8) p1 (cond (done 12) (Obj.cells #[.int .i64 wd, c1, c2, c3] 44 (0, 0)) (Obj.cells #[.int .i64 0, .slice none 0 0, .slice none 0 0, .slice none 0 0] 44 (0, 0))) ++ (onX (done 9) p2 (cond (done 13) (Obj.cells #[.int .i64 wd, f21, f22, f23] 44 (0, 0)) (Obj.cells #[.int .i64 0, .slice none 0 0, .slice none 0 0, .slice none 0 0] 44 (0, 0))) ++ (onX (done 10) p3 (cond (done 14) (Obj.cells #[.int .i64 wd, f31, f32, f33] 44 (0, 0)) (Obj.cells #[.int .i64 0, .slice none 0 0, .slice none 0 0, .slice none 0 0] 44 (0, 0))) ++ (onX (done 11) p4 (cond (done 15) (Obj.cells #[.int .i64 wd, f41, f42, f43] 44 (0, 0)) (Obj.cells #[.int .i64 0, .slice none 0 0, .slice none 0 0, .slice none 0 0] 44 (0, 0))) ++ ([(q, Obj.cells #[.int .i64 wd, .slice (some ⟨g1, 0, none⟩) n k1, .slice (some ⟨g2, 0, none⟩) n k2, .slice (some ⟨g3, 0, none⟩) n k3] 44 (0, 0))]))))) W'
      rw [n12]
      exact H2
    · cases ho
      clear hdep
      have n13 : done 13 = false := by
        cases h : done 13 with
        | false => rfl
        | true => exact absurd (e13 h).1 (by rw [hd]; decide)
      rw [onL_no hd, n13] at H
      go_simp
      refine ⟨rfl, (callsIn_wide.2 (cloneLand_n (wd := wd) (os := os) (es := es) (ss := ss) (n := n) HLE.out.1 HLE.out.2.1 (H.rsI (v := .slice (some ⟨g1, 0, none⟩) n k1) (n := n) (.inl (.head _)) HLE.out.1.1) (H.rsI (v := .slice (some ⟨g2, 0, none⟩) n k2) (n := n) (.inl (.tail _ (.head _))) HLE.out.1.2.1) (H.rsI (v := .slice (some ⟨g3, 0, none⟩) n k3) (n := n) (.inl (.tail _ (.tail _ (.head _)))) HLE.out.1.2.2))).mono ?_⟩
      rintro e W' ⟨c1, c2, c3, rfl, o1, o2, o3, hap, hb⟩
      have H2 := (H.addQs hb (P := [rwI (c1) n os, rwI (c2) n es, rwI (c3) n ss]) (Row.three o1 o2 o3) hap).permQ (((List.perm_append_comm_assoc _ _ _).trans (List.Perm.append_left _ (List.Perm.refl _))))
      refine hK _ _ ?_
      refine ⟨x56, _, x60, x62, t14, t15, t16, t17, f11, f12, f13, c1, c2, c3, f31, f32, f33, f41, f42, f43, p1, p2, p3, p4, rfl, ?_, (fun h => by simpa using e1 (by simpa using h)), (fun _ => rfl), (fun h => by simpa using e5 (by simpa using h)), (fun h => by simpa using e7 (by simpa using h)), (fun h => by simpa using e8 (by simpa using h)), (fun h => by simpa using e9 (by simpa using h)), (fun h => by simpa using e10 (by simpa using h)), (fun h => by simpa using e11 (by simpa using h)), (fun h => by simpa using e12 (by simpa using h)), (fun h => absurd (show done 13 = true by simpa using h) (by rw [n13]; decide)), (fun h => by simpa using e14 (by simpa using h)), (fun h => by simpa using e15 (by simpa using h))⟩
      show Mem w w.heap.size ([rwI (.slice (some ⟨g1, 0, none⟩) n k1) n os, rwI (.slice (some ⟨g2, 0, none⟩) n k2) n es, rwI (.slice (some ⟨g3, 0, none⟩) n k3) n ss]) (onL (done 1) [rwI f11 n os, rwI f12 n es, rwI f13 n ss] ++ (onL (true) [rwI (c1) n os, rwI (c2) n es, rwI (c3) n ss] ++ (onL (done 5) [rwI f31 n os, rwI f32 n es, rwI f33 n ss] ++ (onL (done 7) [rwI f41 n os, rwI f42 n es, rwI f43 n ss] ++ ([]))))) (onX (done 8) p1 (cond (done 12) (Obj.cells #[.int .i64 wd, f11, f12, f13] 44 (0, 0)) (Obj.cells #[.int .i64 0, .slice none 0 0, .slice none 0 0, .slice none 0 0] 44 (0, 0))) ++ (onX (done 9) p2 (cond (done 13) (Obj.cells #[.int .i64 wd, c1, c2, c3] 44 (0, 0)) (Obj.cells #[.int .i64 0, .slice none 0 0, .slice none 0 0, .slice none 0 0] 44 (0, 0))) ++ (onX (done 10) p3 (cond (done 14) (Obj.cells #[.int .i64 wd, f31, f32, f33] 44 (0, 0)) (Obj.cells #[.int .i64 0, .slice none 0 0, .slice none 0 0, .slice none 0 0] 44 (0, 0))) ++ (onX (done 11) p4 (cond (done 15) (Obj.cells #[.int .i64 wd, f41, f42, f43] 44 (0, 0)) (Obj.cells #[.int .i64 0, .slice none 0 0, .slice none 0 0, .slice none 0 0] 44 (0, 0))) ++ ([(q, Obj.cells #[.int .i64 wd, .slice (some ⟨g1, 0, none⟩) n k1, .slice (some ⟨g2, 0, none⟩) n k2, .slice (some ⟨g3, 0, none⟩) n k3] 44 (0, 0))]))))) W'
      rw [n13]
      exact H2
    · cases ho
      clear hdep
      have n14 : done 14 = false := by
        cases h : done 14 with
        | false => rfl
        | true => exact absurd (e14 h).1 (by rw [hd]; decide)
      rw [onL_no hd, n14] at H
      go_simp
      refine ⟨rfl, (callsIn_wide.2 (cloneLand_n (wd := wd) (os := os) (es := es) (ss := ss) (n := n) HLE.out.1 HLE.out.2.1 (H.rsI (v := .slice (some ⟨g1, 0, none⟩) n k1) (n := n) (.inl (.head _)) HLE.out.1.1) (H.rsI (v := .slice (some ⟨g2, 0, none⟩) n k2) (n := n) (.inl (.tail _ (.head _))) HLE.out.1.2.1) (H.rsI (v := .slice (some ⟨g3, 0, none⟩) n k3) (n := n) (.inl (.tail _ (.tail _ (.head _)))) HLE.out.1.2.2))).mono ?_⟩
      rintro e W' ⟨c1, c2, c3, rfl, o1, o2, o3, hap, hb⟩
      have H2 := (H.addQs hb (P := [rwI (c1) n os, rwI (c2) n es, rwI (c3) n ss]) (Row.three o1 o2 o3) hap).permQ (((List.perm_append_comm_assoc _ _ _).trans (List.Perm.append_left _ (((List.perm_append_comm_assoc _ _ _).trans (List.Perm.append_left _ (List.Perm.refl _)))))))
      refine hK _ _ ?_
      refine ⟨x56, x58, _, x62, t14, t15, t16, t17, f11, f12, f13, f21, f22, f23, c1, c2, c3, f41, f42, f43, p1, p2, p3, p4, rfl, ?_, (fun h => by simpa using e1 (by simpa using h)), (fun h => by simpa using e3 (by simpa using h)), (fun _ => rfl), (fun h => by simpa using e7 (by simpa using h)), (fun h => by simpa using e8 (by simpa using h)), (fun h => by simpa using e9 (by simpa using h)), (fun h => by simpa using e10 (by simpa using h)), (fun h => by simpa using e11 (by simpa using h)), (fun h => by simpa using e12 (by simpa using h)), (fun h => by simpa using e13 (by simpa using h)), (fun h => absurd (show done 14 = true by simpa using h) (by rw [n14]; decide)), (fun h => by simpa using e15 (by simpa using h))⟩
      show Mem w w.heap.size ([rwI (.slice (some ⟨g1, 0, none⟩) n k1) n os, rwI (.slice (some ⟨g2, 0, none⟩) n k2) n es, rwI (.slice (some ⟨g3, 0, none⟩) n k3) n ss]) (onL (done 1) [rwI f11 n os, rwI f12 n es, rwI f13 n ss] ++ (onL (done 3) [rwI f21 n os, rwI f22 n es, rwI f23 n ss] ++ (onL (true) [rwI (c1) n os, rwI (c2) n es, rwI (c3) n ss] ++ (onL (done 7) [rwI f41 n os, rwI f42 n es, rwI f43 n ss] ++ ([]))))) (onX (done 8) p1 (cond (done 12) (Obj.cells #[.int .i64 wd, f11, f12, f13] 44 (0, 0)) (Obj.cells #[.int .i64 0, .slice none 0 0, .slice none 0 0, .slice none 0 0] 44 (0, 0))) ++ (onX (done 9) p2 (cond (done 13) (Obj.cells #[.int .i64 wd, f21, f22, f23] 44 (0, 0)) (Obj.cells #[.int .i64 0, .slice none 0 0, .slice none 0 0, .slice none 0 0] 44 (0, 0))) ++ (onX (done 10) p3 (cond (done 14) (Obj.cells #[.int .i64 wd, c1, c2, c3] 44 (0, 0)) (Obj.cells #[.int .i64 0, .slice none 0 0, .slice none 0 0, .slice none 0 0] 44 (0, 0))) ++ (onX (done 11) p4 (cond (done 15) (Obj.cells #[.int .i64 wd, f41, f42, f43] 44 (0, 0)) (Obj.cells #[.int .i64 0, .slice none 0 0, .slice none 0 0, .slice none 0 0] 44 (0, 0))) ++ ([(q, Obj.cells #[.int .i64 wd, .slice (some ⟨g1, 0, none⟩) n k1, .slice (some ⟨g2, 0, none⟩) n k2, .slice (some ⟨g3, 0, none⟩) n k3] 44 (0, 0))]))))) W'
      rw [n14]
      exact H2
    · cases ho
      clear hdep
      have n15 : done 15 = false := by
        cases h : done 15 with
        | false => rfl
        | true => exact absurd (e15 h).1 (by rw [hd]; decide)
      rw [onL_no hd, n15] at H
      go_simp
      refine ⟨rfl, (callsIn_wide.2 (cloneLand_n (wd := wd) (os := os) (es := es) (ss := ss) (n := n) HLE.out.1 HLE.out.2.1 (H.rsI (v := .slice (some ⟨g1, 0, none⟩) n k1) (n := n) (.inl (.head _)) HLE.out.1.1) (H.rsI (v := .slice (some ⟨g2, 0, none⟩) n k2) (n := n) (.inl (.tail _ (.head _))) HLE.out.1.2.1) (H.rsI (v := .slice (some ⟨g3, 0, none⟩) n k3) (n := n) (.inl (.tail _ (.tail _ (.head _)))) HLE.out.1.2.2))).mono ?_⟩
      rintro e W' ⟨c1, c2, c3, rfl, o1, o2, o3, hap, hb⟩
      have H2 := (H.addQs hb (P := [rwI (c1) n os, rwI (c2) n es, rwI (c3) n ss]) (Row.three o1 o2 o3) hap).permQ (((List.perm_append_comm_assoc _ _ _).trans (List.Perm.append_left _ (((List.perm_append_comm_assoc _ _ _).trans (List.Perm.append_left _ (((List.perm_append_comm_assoc _ _ _).trans (List.Perm.append_left _ (List.Perm.refl _))))))))))
      refine hK _ _ ?_
      refine ⟨x56, x58, x60, _, t14, t15, t16, t17, f11, f12, f13, f21, f22, f23, f31, f32, f33, c1, c2, c3, p1, p2, p3, p4, rfl, ?_, (fun h => by simpa using e1 (by simpa using h)), (fun h => by simpa using e3 (by simpa using h)), (fun h => by simpa using e5 (by simpa using h)), (fun _ => rfl), (fun h => by simpa using e8 (by simpa using h)), (fun h => by simpa using e9 (by simpa using h)), (fun h => by simpa using e10 (by simpa using h)), (fun h => by simpa using e11 (by simpa using h)), (fun h => by simpa using e12 (by simpa using h)), (fun h => by simpa using e13 (by simpa using h)), (fun h => by simpa using e14 (by simpa using h)), (fun h => absurd (show done 15 = true by simpa using h) (by rw [n15]; decide))⟩
      show Mem w w.heap.size ([rwI (.slice (some ⟨g1, 0, none⟩) n k1) n os, rwI (.slice (some ⟨g2, 0, none⟩) n k2) n es, rwI (.slice (some ⟨g3, 0, none⟩) n k3) n ss]) (onL (done 1) [rwI f11 n os, rwI f12 n es, rwI f13 n ss] ++ (onL (done 3) [rwI f21 n os, rwI f22 n es, rwI f23 n ss] ++ (onL (done 5) [rwI f31 n os, rwI f32 n es, rwI f33 n ss] ++ (onL (true) [rwI (c1) n os, rwI (c2) n es, rwI (c3) n ss] ++ ([]))))) (onX (done 8) p1 (cond (done 12) (Obj.cells #[.int .i64 wd, f11, f12, f13] 44 (0, 0)) (Obj.cells #[.int .i64 0, .slice none 0 0, .slice none 0 0, .slice none 0 0] 44 (0, 0))) ++ (onX (done 9) p2 (cond (done 13) (Obj.cells #[.int .i64 wd, f21, f22, f23] 44 (0, 0)) (Obj.cells #[.int .i64 0, .slice none 0 0, .slice none 0 0, .slice none 0 0] 44 (0, 0))) ++ (onX (done 10) p3 (cond (done 14) (Obj.cells #[.int .i64 wd, f31, f32, f33] 44 (0, 0)) (Obj.cells #[.int .i64 0, .slice none 0 0, .slice none 0 0, .slice none 0 0] 44 (0, 0))) ++ (onX (done 11) p4 (cond (done 15) (Obj.cells #[.int .i64 wd, c1, c2, c3] 44 (0, 0)) (Obj.cells #[.int .i64 0, .slice none 0 0, .slice none 0 0, .slice none 0 0] 44 (0, 0))) ++ ([(q, Obj.cells #[.int .i64 wd, .slice (some ⟨g1, 0, none⟩) n k1, .slice (some ⟨g2, 0, none⟩) n k2, .slice (some ⟨g3, 0, none⟩) n k3] 44 (0, 0))]))))) W'
      rw [n15]
      exact H2
    · cases ho
      clear hdep
      have n12 : done 12 = false := by
        cases h : done 12 with
        | false => rfl
        | true => exact absurd (e12 h).2 (by rw [hd]; decide)
      rw [onX_no hd] at H
      go_simp
      have H2 := Mem.permX (X := [(W.heap.size, Obj.cells #[.int .i64 0, .slice none 0 0, .slice none 0 0, .slice none 0 0] 44 (0, 0))] ++ _) (H.lay (Obj.cells #[.int .i64 0, .slice none 0 0, .slice none 0 0, .slice none 0 0] 44 (0, 0))) (List.Perm.refl _)
      refine hK _ _ ?_
      refine ⟨x56, x58, x60, x62, _, t15, t16, t17, f11, f12, f13, f21, f22, f23, f31, f32, f33, f41, f42, f43, W.heap.size, p2, p3, p4, rfl, ?_, (fun h => by simpa using e1 (by simpa using h)), (fun h => by simpa using e3 (by simpa using h)), (fun h => by simpa using e5 (by simpa using h)), (fun h => by simpa using e7 (by simpa using h)), (fun _ => rfl), (fun h => by simpa using e9 (by simpa using h)), (fun h => by simpa using e10 (by simpa using h)), (fun h => by simpa using e11 (by simpa using h)), (fun h => absurd (show done 12 = true by simpa using h) (by rw [n12]; decide)), (fun h => by simpa using e13 (by simpa using h)), (fun h => by simpa using e14 (by simpa using h)), (fun h => by simpa using e15 (by simpa using h))⟩
      show Mem w w.heap.size ([rwI (.slice (some ⟨g1, 0, none⟩) n k1) n os, rwI (.slice (some ⟨g2, 0, none⟩) n k2) n es, rwI (.slice (some ⟨g3, 0, none⟩) n k3) n ss]) (onL (done 1) [rwI f11 n os, rwI f12 n es, rwI f13 n ss] ++ (onL (done 3) [rwI f21 n os, rwI f22 n es, rwI f23 n ss] ++ (onL (done 5) [rwI f31 n os, rwI f32 n es, rwI f33 n ss] ++ (onL (done 7) [rwI f41 n os, rwI f42 n es, rwI f43 n ss] ++ ([]))))) (onX (true) W.heap.size (cond (done 12) (Obj.cells #[.int .i64 wd, f11, f12, f13] 44 (0, 0)) (Obj.cells #[.int .i64 0, .slice none 0 0, .slice none 0 0, .slice none 0 0] 44 (0, 0))) ++ (onX (done 9) p2 (cond (done 13) (Obj.cells #[.int .i64 wd, f21, f22, f23] 44 (0, 0)) (Obj.cells #[.int .i64 0, .slice none 0 0, .slice none 0 0, .slice none 0 0] 44 (0, 0))) ++ (onX (done 10) p3 (cond (done 14) (Obj.cells #[.int .i64 wd, f31, f32, f33] 44 (0, 0)) (Obj.cells #[.int .i64 0, .slice none 0 0, .slice none 0 0, .slice none 0 0] 44 (0, 0))) ++ (onX (done 11) p4 (cond (done 15) (Obj.cells #[.int .i64 wd, f41, f42, f43] 44 (0, 0)) (Obj.cells #[.int .i64 0, .slice none 0 0, .slice none 0 0, .slice none 0 0] 44 (0, 0))) ++ ([(q, Obj.cells #[.int .i64 wd, .slice (some ⟨g1, 0, none⟩) n k1, .slice (some ⟨g2, 0, none⟩) n k2, .slice (some ⟨g3, 0, none⟩) n k3] 44 (0, 0))]))))) (W.alloc (Obj.cells #[.int .i64 0, .slice none 0 0, .slice none 0 0, .slice none 0 0] 44 (0, 0)))
      rw [n12]
      exact H2
    · cases ho
      clear hdep
      have n13 : done 13 = false := by
        cases h : done 13 with
        | false => rfl
        | true => exact absurd (e13 h).2 (by rw [hd]; decide)
      rw [onX_no hd] at H
      go_simp
      have H2 := Mem.permX (X := [(W.heap.size, Obj.cells #[.int .i64 0, .slice none 0 0, .slice none 0 0, .slice none 0 0] 44 (0, 0))] ++ _) (H.lay (Obj.cells #[.int .i64 0, .slice none 0 0, .slice none 0 0, .slice none 0 0] 44 (0, 0))) (((List.perm_append_comm_assoc _ _ _).trans (List.Perm.append_left _ (List.Perm.refl _))))
      refine hK _ _ ?_
      refine ⟨x56, x58, x60, x62, t14, _, t16, t17, f11, f12, f13, f21, f22, f23, f31, f32, f33, f41, f42, f43, p1, W.heap.size, p3, p4, rfl, ?_, (fun h => by simpa using e1 (by simpa using h)), (fun h => by simpa using e3 (by simpa using h)), (fun h => by simpa using e5 (by simpa using h)), (fun h => by simpa using e7 (by simpa using h)), (fun h => by simpa using e8 (by simpa using h)), (fun _ => rfl), (fun h => by simpa using e10 (by simpa using h)), (fun h => by simpa using e11 (by simpa using h)), (fun h => by simpa using e12 (by simpa using h)), (fun h => absurd (show done 13 = true by simpa using h) (by rw [n13]; decide)), (fun h => by simpa using e14 (by simpa using h)), (fun h => by simpa using e15 (by simpa using h))⟩
      show Mem w w.heap.size ([rwI (.slice (some ⟨g1, 0, none⟩) n k1) n os, rwI (.slice (some ⟨g2, 0, none⟩) n k2) n es, rwI (.slice (some ⟨g3, 0, none⟩) n k3) n ss]) (onL (done 1) [rwI f11 n os, rwI f12 n es, rwI f13 n ss] ++ (onL (done 3) [rwI f21 n os, rwI f22 n es, rwI f23 n ss] ++ (onL (done 5) [rwI f31 n os, rwI f32 n es, rwI f33 n ss] ++ (onL (done 7) [rwI f41 n os, rwI f42 n es, rwI f43 n ss] ++ ([]))))) (onX (done 8) p1 (cond (done 12) (Obj.cells #[.int .i64 wd, f11, f12, f13] 44 (0, 0)) (Obj.cells #[.int .i64 0, .slice none 0 0, .slice none 0 0, .slice none 0 0] 44 (0, 0))) ++ (onX (true) W.heap.size (cond (done 13) (Obj.cells #[.int .i64 wd, f21, f22, f23] 44 (0, 0)) (Obj.cells #[.int .i64 0, .slice none 0 0, .slice none 0 0, .slice none 0 0] 44 (0, 0))) ++ (onX (done 10) p3 (cond (done 14) (Obj.cells #[.int .i64 wd, f31, f32, f33] 44 (0, 0)) (Obj.cells #[.int .i64 0, .slice none 0 0, .slice none 0 0, .slice none 0 0] 44 (0, 0))) ++ (onX (done 11) p4 (cond (done 15) (Obj.cells #[.int .i64 wd, f41, f42, f43] 44 (0, 0)) (Obj.cells #[.int .i64 0, .slice none 0 0, .slice none 0 0, .slice none 0 0] 44 (0, 0))) ++ ([(q, Obj.cells #[.int .i64 wd, .slice (some ⟨g1, 0, none⟩) n k1, .slice (some ⟨g2, 0, none⟩) n k2, .slice (some ⟨g3, 0, none⟩) n k3] 44 (0, 0))]))))) (W.alloc (Obj.cells #[.int .i64 0, .slice none 0 0, .slice none 0 0, .slice none 0 0] 44 (0, 0)))
      rw [n13]
      exact H2
    · cases ho
      clear hdep
      have n14 : done 14 = false := by
        cases h : done 14 with
        | false => rfl
        | true => exact absurd (e14 h).2 (by rw [hd]; decide)
      rw [onX_no hd] at H
      go_simp
      have H2 := Mem.permX (X := [(W.heap.size, Obj.cells #[.int .i64 0, .slice none 0 0, .slice none 0 0, .slice none 0 0] 44 (0, 0))] ++ _) (H.lay (Obj.cells #[.int .i64 0, .slice none 0 0, .slice none 0 0, .slice none 0 0] 44 (0, 0))) (((List.perm_append_comm_assoc _ _ _).trans (List.Perm.append_left _ (((List.perm_append_comm_assoc _ _ _).trans (List.Perm.append_left _ (List.Perm.refl _)))))))
      refine hK _ _ ?_
      refine ⟨x56, x58, x60, x62, t14, t15, _, t17, f11, f12, f13, f21, f22, f23, f31, f32, f33, f41, f42, f43, p1, p2, W.heap.size, p4, rfl, ?_, (fun h => by simpa using e1 (by simpa using h)), (fun h => by simpa using e3 (by simpa using h)), (fun h => by simpa using e5 (by simpa using h)), (fun h => by simpa using e7 (by simpa using h)), (fun h => by simpa using e8 (by simpa using h)), (fun h => by simpa using e9 (by simpa using h)), (fun _ => rfl), (fun h => by simpa using e11 (by simpa using h)), (fun h => by simpa using e12 (by simpa using h)), (fun h => by simpa using e13 (by simpa using h)), (fun h => absurd (show done 14 = true by simpa using h) (by rw [n14]; decide)), (fun h => by simpa using e15 (by simpa using h))⟩
      show Mem w w.heap.size ([rwI (.slice (some ⟨g1, 0, none⟩) n k1) n os, rwI (.slice (some ⟨g2, 0, none⟩) n k2) n es, rwI (.slice (some ⟨g3, 0, none⟩) n k3) n ss]) (onL (done 1) [rwI f11 n os, rwI f12 n es, rwI f13 n ss] ++ (onL (done 3) [rwI f21 n os, rwI f22 n es, rwI f23 n ss] ++ (onL (done 5) [rwI f31 n os, rwI f32 n es, rwI f33 n ss] ++ (onL (done 7) [rwI f41 n os, rwI f42 n es, rwI f43 n ss] ++ ([]))))) (onX (done 8) p1 (cond (done 12) (Obj.cells #[.int .i64 wd, f11, f12, f13] 44 (0, 0)) (Obj.cells #[.int .i64 0, .slice none 0 0, .slice none 0 0, .slice none 0 0] 44 (0, 0))) ++ (onX (done 9) p2 (cond (done 13) (Obj.cells #[.int .i64 wd, f21, f22, f23] 44 (0, 0)) (Obj.cells #[.int .i64 0, .slice none 0 0, .slice none 0 0, .slice none 0 0] 44 (0, 0))) ++ (onX (true) W.heap.size (cond (done 14) (Obj.cells #[.int .i64 wd, f31, f32, f33] 44 (0, 0)) (Obj.cells #[.int .i64 0, .slice none 0 0, .slice none 0 0, .slice none 0 0] 44 (0, 0))) ++ (onX (done 11) p4 (cond (done 15) (Obj.cells #[.int .i64 wd, f41, f42, f43] 44 (0, 0)) (Obj.cells #[.int .i64 0, .slice none 0 0, .slice none 0 0, .slice none 0 0] 44 (0, 0))) ++ ([(q, Obj.cells #[.int .i64 wd, .slice (some ⟨g1, 0, none⟩) n k1, .slice (some ⟨g2, 0, none⟩) n k2, .slice (some ⟨g3, 0, none⟩) n k3] 44 (0, 0))]))))) (W.alloc (Obj.cells #[.int .i64 0, .slice none 0 0, .slice none 0 0, .slice none 0 0] 44 (0, 0)))
      rw [n14]
      exact H2
    · cases ho
      clear hdep
      have n15 : done 15 = false := by
        cases h : done 15 with
        | false => rfl
        | true => exact absurd (e15 h).2 (by rw [hd]; decide)
      rw [onX_no hd] at H
      go_simp
      have H2 := Mem.permX (X := [(W.heap.size, Obj.cells #[.int .i64 0, .slice none 0 0, .slice none 0 0, .slice none 0 0] 44 (0, 0))] ++ _) (H.lay (Obj.cells #[.int .i64 0, .slice none 0 0, .slice none 0 0, .slice none 0 0] 44 (0, 0))) (((List.perm_append_comm_assoc _ _ _).trans (List.Perm.append_left _ (((List.perm_append_comm_assoc _ _ _).trans (List.Perm.append_left _ (((List.perm_append_comm_assoc _ _ _).trans (List.Perm.append_left _ (List.Perm.refl _))))))))))
      refine hK _ _ ?_
      refine ⟨x56, x58, x60, x62, t14, t15, t16, _, f11, f12, f13, f21, f22, f23, f31, f32, f33, f41, f42, f43, p1, p2, p3, W.heap.size, rfl, ?_, (fun h => by simpa using e1 (by simpa using h)), (fun h => by simpa using e3 (by simpa using h)), (fun h => by simpa using e5 (by simpa using h)), (fun h => by simpa using e7 (by simpa using h)), (fun h => by simpa using e8 (by simpa using h)), (fun h => by simpa using e9 (by simpa using h)), (fun h => by simpa using e10 (by simpa using h)), (fun _ => rfl), (fun h => by simpa using e12 (by simpa using h)), (fun h => by simpa using e13 (by simpa using h)), (fun h => by simpa using e14 (by simpa using h)), (fun h => absurd (show done 15 = true by simpa using h) (by rw [n15]; decide))⟩
      show Mem w w.heap.size ([rwI (.slice (some ⟨g1, 0, none⟩) n k1) n os, rwI (.slice (some ⟨g2, 0, none⟩) n k2) n es, rwI (.slice (some ⟨g3, 0, none⟩) n k3) n ss]) (onL (done 1) [rwI f11 n os, rwI f12 n es, rwI f13 n ss] ++ (onL (done 3) [rwI f21 n os, rwI f22 n es, rwI f23 n ss] ++ (onL (done 5) [rwI f31 n os, rwI f32 n es, rwI f33 n ss] ++ (onL (done 7) [rwI f41 n os, rwI f42 n es, rwI f43 n ss] ++ ([]))))) (onX (done 8) p1 (cond (done 12) (Obj.cells #[.int .i64 wd, f11, f12, f13] 44 (0, 0)) (Obj.cells #[.int .i64 0, .slice none 0 0, .slice none 0 0, .slice none 0 0] 44 (0, 0))) ++ (onX (done 9) p2 (cond (done 13) (Obj.cells #[.int .i64 wd, f21, f22, f23] 44 (0, 0)) (Obj.cells #[.int .i64 0, .slice none 0 0, .slice none 0 0, .slice none 0 0] 44 (0, 0))) ++ (onX (done 10) p3 (cond (done 14) (Obj.cells #[.int .i64 wd, f31, f32, f33] 44 (0, 0)) (Obj.cells #[.int .i64 0, .slice none 0 0, .slice none 0 0, .slice none 0 0] 44 (0, 0))) ++ (onX (true) W.heap.size (cond (done 15) (Obj.cells #[.int .i64 wd, f41, f42, f43] 44 (0, 0)) (Obj.cells #[.int .i64 0, .slice none 0 0, .slice none 0 0, .slice none 0 0] 44 (0, 0))) ++ ([(q, Obj.cells #[.int .i64 wd, .slice (some ⟨g1, 0, none⟩) n k1, .slice (some ⟨g2, 0, none⟩) n k2, .slice (some ⟨g3, 0, none⟩) n k3] 44 (0, 0))]))))) (W.alloc (Obj.cells #[.int .i64 0, .slice none 0 0, .slice none 0 0, .slice none 0 0] 44 (0, 0)))
      rw [n15]
      exact H2
    · cases ho
      have hcl := hdep 1 (by kernel_rfl) (by simp)
      have hl := hdep 8 (by kernel_rfl) (by simp)
      clear hdep
      obtain rfl := e1 hcl
      obtain rfl := e8 hl
      obtain ⟨ga0, ca0, rfl⟩ : ∃ g cap, f11 = .slice (some ⟨g, 0, none⟩) n cap := form_pos (r := rwI f11 n os) (H.q _ (by rw [onL_yes hcl]; simp)) (show 0 < n by have := HL2.out; omega)
      obtain ⟨ga1, ca1, rfl⟩ : ∃ g cap, f12 = .slice (some ⟨g, 0, none⟩) n cap := form_pos (r := rwI f12 n es) (H.q _ (by rw [onL_yes hcl]; simp)) (show 0 < n by have := HL2.out; omega)
      obtain ⟨ga2, ca2, rfl⟩ : ∃ g cap, f13 = .slice (some ⟨g, 0, none⟩) n cap := form_pos (r := rwI f13 n ss) (H.q _ (by rw [onL_yes hcl]; simp)) (show 0 < n by have := HL2.out; omega)
      rw [onX_yes hl, hd] at H
      have H1 := H.permX (List.Perm.refl _).symm
      obtain ⟨z0, z1, z2, z3⟩ := H1.box4 (q := p1) (a := .int .i64 0) (b := .slice none 0 0) (e := .slice none 0 0) (f := .slice none 0 0) (t := 44) (List.mem_cons_self)
      obtain ⟨y0, y1, y2, y3⟩ := H1.frz4 (q := p1) (a := .int .i64 0) (b := .slice none 0 0) (e := .slice none 0 0) (f := .slice none 0 0) (t := 44) (List.mem_cons_self)
      have H2 := Mem.permX (X := [_] ++ (_)) (Mem.put4 (X1 := []) H1 (.int .i64 wd) (.slice (some ⟨ga0, 0, none⟩) n ca0) (.slice (some ⟨ga1, 0, none⟩) n ca1) (.slice (some ⟨ga2, 0, none⟩) n ca2)) (List.Perm.refl _)
      go_simp
      clear z0 z1 z2 z3 y0 y1 y2 y3
      refine hK _ _ ?_
      refine ⟨_, x58, x60, x62, _, t15, t16, t17, .slice (some ⟨ga0, 0, none⟩) n ca0, .slice (some ⟨ga1, 0, none⟩) n ca1, .slice (some ⟨ga2, 0, none⟩) n ca2, f21, f22, f23, f31, f32, f33, f41, f42, f43, p1, p2, p3, p4, rfl, ?_, (fun _ => rfl), (fun h => by simpa using e3 (by simpa using h)), (fun h => by simpa using e5 (by simpa using h)), (fun h => by simpa using e7 (by simpa using h)), (fun _ => rfl), (fun h => by simpa using e9 (by simpa using h)), (fun h => by simpa using e10 (by simpa using h)), (fun h => by simpa using e11 (by simpa using h)), (fun _ => ⟨by simpa using hcl, by simpa using hl⟩), (fun h => by simpa using e13 (by simpa using h)), (fun h => by simpa using e14 (by simpa using h)), (fun h => by simpa using e15 (by simpa using h))⟩
      show Mem w w.heap.size ([rwI (.slice (some ⟨g1, 0, none⟩) n k1) n os, rwI (.slice (some ⟨g2, 0, none⟩) n k2) n es, rwI (.slice (some ⟨g3, 0, none⟩) n k3) n ss]) (onL (done 1) [rwI ((.slice (some ⟨ga0, 0, none⟩) n ca0)) n os, rwI ((.slice (some ⟨ga1, 0, none⟩) n ca1)) n es, rwI ((.slice (some ⟨ga2, 0, none⟩) n ca2)) n ss] ++ (onL (done 3) [rwI f21 n os, rwI f22 n es, rwI f23 n ss] ++ (onL (done 5) [rwI f31 n os, rwI f32 n es, rwI f33 n ss] ++ (onL (done 7) [rwI f41 n os, rwI f42 n es, rwI f43 n ss] ++ ([]))))) (onX (done 8) p1 (cond (true) (Obj.cells #[.int .i64 wd, (.slice (some ⟨ga0, 0, none⟩) n ca0), (.slice (some ⟨ga1, 0, none⟩) n ca1), (.slice (some ⟨ga2, 0, none⟩) n ca2)] 44 (0, 0)) (Obj.cells #[.int .i64 0, .slice none 0 0, .slice none 0 0, .slice none 0 0] 44 (0, 0))) ++ (onX (done 9) p2 (cond (done 13) (Obj.cells #[.int .i64 wd, f21, f22, f23] 44 (0, 0)) (Obj.cells #[.int .i64 0, .slice none 0 0, .slice none 0 0, .slice none 0 0] 44 (0, 0))) ++ (onX (done 10) p3 (cond (done 14) (Obj.cells #[.int .i64 wd, f31, f32, f33] 44 (0, 0)) (Obj.cells #[.int .i64 0, .slice none 0 0, .slice none 0 0, .slice none 0 0] 44 (0, 0))) ++ (onX (done 11) p4 (cond (done 15) (Obj.cells #[.int .i64 wd, f41, f42, f43] 44 (0, 0)) (Obj.cells #[.int .i64 0, .slice none 0 0, .slice none 0 0, .slice none 0 0] 44 (0, 0))) ++ ([(q, Obj.cells #[.int .i64 wd, .slice (some ⟨g1, 0, none⟩) n k1, .slice (some ⟨g2, 0, none⟩) n k2, .slice (some ⟨g3, 0, none⟩) n k3] 44 (0, 0))]))))) _
      rw [onX_yes hl]
      exact H2
    · cases ho
      have hcl := hdep 3 (by kernel_rfl) (by simp)
      have hl := hdep 9 (by kernel_rfl) (by simp)
      clear hdep
      obtain rfl := e3 hcl
      obtain rfl := e9 hl
      obtain ⟨ga0, ca0, rfl⟩ : ∃ g cap, f21 = .slice (some ⟨g, 0, none⟩) n cap := form_pos (r := rwI f21 n os) (H.q _ (by rw [onL_yes hcl]; simp)) (show 0 < n by have := HL2.out; omega)
      obtain ⟨ga1, ca1, rfl⟩ : ∃ g cap, f22 = .slice (some ⟨g, 0, none⟩) n cap := form_pos (r := rwI f22 n es) (H.q _ (by rw [onL_yes hcl]; simp)) (show 0 < n by have := HL2.out; omega)
      obtain ⟨ga2, ca2, rfl⟩ : ∃ g cap, f23 = .slice (some ⟨g, 0, none⟩) n cap := form_pos (r := rwI f23 n ss) (H.q _ (by rw [onL_yes hcl]; simp)) (show 0 < n by have := HL2.out; omega)
      rw [onX_yes hl, hd] at H
      have H1 := H.permX (((List.perm_append_comm_assoc _ _ _).trans (List.Perm.append_left _ (List.Perm.refl _)))).symm
      obtain ⟨z0, z1, z2, z3⟩ := H1.box4 (q := p2) (a := .int .i64 0) (b := .slice none 0 0) (e := .slice none 0 0) (f := .slice none 0 0) (t := 44) (List.mem_cons_self)
      obtain ⟨y0, y1, y2, y3⟩ := H1.frz4 (q := p2) (a := .int .i64 0) (b := .slice none 0 0) (e := .slice none 0 0) (f := .slice none 0 0) (t := 44) (List.mem_cons_self)
      have H2 := Mem.permX (X := [_] ++ (_)) (Mem.put4 (X1 := []) H1 (.int .i64 wd) (.slice (some ⟨ga0, 0, none⟩) n ca0) (.slice (some ⟨ga1, 0, none⟩) n ca1) (.slice (some ⟨ga2, 0, none⟩) n ca2)) (((List.perm_append_comm_assoc _ _ _).trans (List.Perm.append_left _ (List.Perm.refl _))))
      go_simp
      clear z0 z1 z2 z3 y0 y1 y2 y3
      refine hK _ _ ?_
      refine ⟨x56, _, x60, x62, t14, _, t16, t17, f11, f12, f13, .slice (some ⟨ga0, 0, none⟩) n ca0, .slice (some ⟨ga1, 0, none⟩) n ca1, .slice (some ⟨ga2, 0, none⟩) n ca2, f31, f32, f33, f41, f42, f43, p1, p2, p3, p4, rfl, ?_, (fun h => by simpa using e1 (by simpa using h)), (fun _ => rfl), (fun h => by simpa using e5 (by simpa using h)), (fun h => by simpa using e7 (by simpa using h)), (fun h => by simpa using e8 (by simpa using h)), (fun _ => rfl), (fun h => by simpa using e10 (by simpa using h)), (fun h => by simpa using e11 (by simpa using h)), (fun h => by simpa using e12 (by simpa using h)), (fun _ => ⟨by simpa using hcl, by simpa using hl⟩), (fun h => by simpa using e14 (by simpa using h)), (fun h => by simpa using e15 (by simpa using h))⟩
      show Mem w w.heap.size ([rwI (.slice (some ⟨g1, 0, none⟩) n k1) n os, rwI (.slice (some ⟨g2, 0, none⟩) n k2) n es, rwI (.slice (some ⟨g3, 0, none⟩) n k3) n ss]) (onL (done 1) [rwI f11 n os, rwI f12 n es, rwI f13 n ss] ++ (onL (done 3) [rwI ((.slice (some ⟨ga0, 0, none⟩) n ca0)) n os, rwI ((.slice (some ⟨ga1, 0, none⟩) n ca1)) n es, rwI ((.slice (some ⟨ga2, 0, none⟩) n ca2)) n ss] ++ (onL (done 5) [rwI f31 n os, rwI f32 n es, rwI f33 n ss] ++ (onL (done 7) [rwI f41 n os, rwI f42 n es, rwI f43 n ss] ++ ([]))))) (onX (done 8) p1 (cond (done 12) (Obj.cells #[.int .i64 wd, f11, f12, f13] 44 (0, 0)) (Obj.cells #[.int .i64 0, .slice none 0 0, .slice none 0 0, .slice none 0 0] 44 (0, 0))) ++ (onX (done 9) p2 (cond (true) (Obj.cells #[.int .i64 wd, (.slice (some ⟨ga0, 0, none⟩) n ca0), (.slice (some ⟨ga1, 0, none⟩) n ca1), (.slice (some ⟨ga2, 0, none⟩) n ca2)] 44 (0, 0)) (Obj.cells #[.int .i64 0, .slice none 0 0, .slice none 0 0, .slice none 0 0] 44 (0, 0))) ++ (onX (done 10) p3 (cond (done 14) (Obj.cells #[.int .i64 wd, f31, f32, f33] 44 (0, 0)) (Obj.cells #[.int .i64 0, .slice none 0 0, .slice none 0 0, .slice none 0 0] 44 (0, 0))) ++ (onX (done 11) p4 (cond (done 15) (Obj.cells #[.int .i64 wd, f41, f42, f43] 44 (0, 0)) (Obj.cells #[.int .i64 0, .slice none 0 0, .slice none 0 0, .slice none 0 0] 44 (0, 0))) ++ ([(q, Obj.cells #[.int .i64 wd, .slice (some ⟨g1, 0, none⟩) n k1, .slice (some ⟨g2, 0, none⟩) n k2, .slice (some ⟨g3, 0, none⟩) n k3] 44 (0, 0))]))))) _
      rw [onX_yes hl]
      exact H2
    · cases ho
      have hcl := hdep 5 (by kernel_rfl) (by simp)
      have hl := hdep 10 (by kernel_rfl) (by simp)
      clear hdep
      obtain rfl := e5 hcl
      obtain rfl := e10 hl
      obtain ⟨ga0, ca0, rfl⟩ : ∃ g cap, f31 = .slice (some ⟨g, 0, none⟩) n cap := form_pos (r := rwI f31 n os) (H.q _ (by rw [onL_yes hcl]; simp)) (show 0 < n by have := HL2.out; omega)
      obtain ⟨ga1, ca1, rfl⟩ : ∃ g cap, f32 = .slice (some ⟨g, 0, none⟩) n cap := form_pos (r := rwI f32 n es) (H.q _ (by rw [onL_yes hcl]; simp)) (show 0 < n by have := HL2.out; omega)
      obtain ⟨ga2, ca2, rfl⟩ : ∃ g cap, f33 = .slice (some ⟨g, 0, none⟩) n cap := form_pos (r := rwI f33 n ss) (H.q _ (by rw [onL_yes hcl]; simp)) (show 0 < n by have := HL2.out; omega)
      rw [onX_yes hl, hd] at H
      have H1 := H.permX (((List.perm_append_comm_assoc _ _ _).trans (List.Perm.append_left _ (((List.perm_append_comm_assoc _ _ _).trans (List.Perm.append_left _ (List.Perm.refl _))))))).symm
      obtain ⟨z0, z1, z2, z3⟩ := H1.box4 (q := p3) (a := .int .i64 0) (b := .slice none 0 0) (e := .slice none 0 0) (f := .slice none 0 0) (t := 44) (List.mem_cons_self)
      obtain ⟨y0, y1, y2, y3⟩ := H1.frz4 (q := p3) (a := .int .i64 0) (b := .slice none 0 0) (e := .slice none 0 0) (f := .slice none 0 0) (t := 44) (List.mem_cons_self)
      have H2 := Mem.permX (X := [_] ++ (_)) (Mem.put4 (X1 := []) H1 (.int .i64 wd) (.slice (some ⟨ga0, 0, none⟩) n ca0) (.slice (some ⟨ga1, 0, none⟩) n ca1) (.slice (some ⟨ga2, 0, none⟩) n ca2)) (((List.perm_append_comm_assoc _ _ _).trans (List.Perm.append_left _ (((List.perm_append_comm_assoc _ _ _).trans (List.Perm.append_left _ (List.Perm.refl _)))))))
      go_simp
      clear z0 z1 z2 z3 y0 y1 y2 y3
      refine hK _ _ ?_
      refine ⟨x56, x58, _, x62, t14, t15, _, t17, f11, f12, f13, f21, f22, f23, .slice (some ⟨ga0, 0, none⟩) n ca0, .slice (some ⟨ga1, 0, none⟩) n ca1, .slice (some ⟨ga2, 0, none⟩) n ca2, f41, f42, f43, p1, p2, p3, p4, rfl, ?_, (fun h => by simpa using e1 (by simpa using h)), (fun h => by simpa using e3 (by simpa using h)), (fun _ => rfl), (fun h => by simpa using e7 (by simpa using h)), (fun h => by simpa using e8 (by simpa using h)), (fun h => by simpa using e9 (by simpa using h)), (fun _ => rfl), (fun h => by simpa using e11 (by simpa using h)), (fun h => by simpa using e12 (by simpa using h)), (fun h => by simpa using e13 (by simpa using h)), (fun _ => ⟨by simpa using hcl, by simpa using hl⟩), (fun h => by simpa using e15 (by simpa using h))⟩
      show Mem w w.heap.size ([rwI (.slice (some ⟨g1, 0, none⟩) n k1) n os, rwI (.slice (some ⟨g2, 0, none⟩) n k2) n es, rwI (.slice (some ⟨g3, 0, none⟩) n k3) n ss]) (onL (done 1) [rwI f11 n os, rwI f12 n es, rwI f13 n ss] ++ (onL (done 3) [rwI f21 n os, rwI f22 n es, rwI f23 n ss] ++ (onL (done 5) [rwI ((.slice (some ⟨ga0, 0, none⟩) n ca0)) n os, rwI ((.slice (some ⟨ga1, 0, none⟩) n ca1)) n es, rwI ((.slice (some ⟨ga2, 0, none⟩) n ca2)) n ss] ++ (onL (done 7) [rwI f41 n os, rwI f42 n es, rwI f43 n ss] ++ ([]))))) (onX (done 8) p1 (cond (done 12) (Obj.cells #[.int .i64 wd, f11, f12, f13] 44 (0, 0)) (Obj.cells #[.int .i64 0, .slice none 0 0, .slice none 0 0, .slice none 0 0] 44 (0, 0))) ++ (onX (done 9) p2 (cond (done 13) (Obj.cells #[.int .i64 wd, f21, f22, f23] 44 (0, 0)) (Obj.cells #[.int .i64 0, .slice none 0 0, .slice none 0 0, .slice none 0 0] 44 (0, 0))) ++ (onX (done 10) p3 (cond (true) (Obj.cells #[.int .i64 wd, (.slice (some ⟨ga0, 0, none⟩) n ca0), (.slice (some ⟨ga1, 0, none⟩) n ca1), (.slice (some ⟨ga2, 0, none⟩) n ca2)] 44 (0, 0)) (Obj.cells #[.int .i64 0, .slice none 0 0, .slice none 0 0, .slice none 0 0] 44 (0, 0))) ++ (onX (done 11) p4 (cond (done 15) (Obj.cells #[.int .i64 wd, f41, f42, f43] 44 (0, 0)) (Obj.cells #[.int .i64 0, .slice none 0 0, .slice none 0 0, .slice none 0 0] 44 (0, 0))) ++ ([(q, Obj.cells #[.int .i64 wd, .slice (some ⟨g1, 0, none⟩) n k1, .slice (some ⟨g2, 0, none⟩) n k2, .slice (some ⟨g3, 0, none⟩) n k3] 44 (0, 0))]))))) _
      rw [onX_yes hl]
      exact H2
    · cases ho
      have hcl := hdep 7 (by kernel_rfl) (by simp)
      have hl := hdep 11 (by kernel_rfl) (by simp)
      clear hdep
      obtain rfl := e7 hcl
      obtain rfl := e11 hl
      obtain ⟨ga0, ca0, rfl⟩ : ∃ g cap, f41 = .slice (some ⟨g, 0, none⟩) n cap := form_pos (r := rwI f41 n os) (H.q _ (by rw [onL_yes hcl]; simp)) (show 0 < n by have := HL2.out; omega)
      obtain ⟨ga1, ca1, rfl⟩ : ∃ g cap, f42 = .slice (some ⟨g, 0, none⟩) n cap := form_pos (r := rwI f42 n es) (H.q _ (by rw [onL_yes hcl]; simp)) (show 0 < n by have := HL2.out; omega)
      obtain ⟨ga2, ca2, rfl⟩ : ∃ g cap, f43 = .slice (some ⟨g, 0, none⟩) n cap := form_pos (r := rwI f43 n ss) (H.q _ (by rw [onL_yes hcl]; simp)) (show 0 < n by have := HL2.out; omega)
      rw [onX_yes hl, hd] at H
      have H1 := H.permX (((List.perm_append_comm_assoc _ _ _).trans (List.Perm.append_left _ (((List.perm_append_comm_assoc _ _ _).trans (List.Perm.append_left _ (((List.perm_append_comm_assoc _ _ _).trans (List.Perm.append_left _ (List.Perm.refl _)))))))))).symm
      obtain ⟨z0, z1, z2, z3⟩ := H1.box4 (q := p4) (a := .int .i64 0) (b := .slice none 0 0) (e := .slice none 0 0) (f := .slice none 0 0) (t := 44) (List.mem_cons_self)
      obtain ⟨y0, y1, y2, y3⟩ := H1.frz4 (q := p4) (a := .int .i64 0) (b := .slice none 0 0) (e := .slice none 0 0) (f := .slice none 0 0) (t := 44) (List.mem_cons_self)
      have H2 := Mem.permX (X := [_] ++ (_)) (Mem.put4 (X1 := []) H1 (.int .i64 wd) (.slice (some ⟨ga0, 0, none⟩) n ca0) (.slice (some ⟨ga1, 0, none⟩) n ca1) (.slice (some ⟨ga2, 0, none⟩) n ca2)) (((List.perm_append_comm_assoc _ _ _).trans (List.Perm.append_left _ (((List.perm_append_comm_assoc _ _ _).trans (List.Perm.append_left _ (((List.perm_append_comm_assoc _ _ _).trans (List.Perm.append_left _ (List.Perm.refl _))))))))))
      go_simp
      clear z0 z1 z2 z3 y0 y1 y2 y3
      refine hK _ _ ?_
      refine ⟨x56, x58, x60, _, t14, t15, t16, _, f11, f12, f13, f21, f22, f23, f31, f32, f33, .slice (some ⟨ga0, 0, none⟩) n ca0, .slice (some ⟨ga1, 0, none⟩) n ca1, .slice (some ⟨ga2, 0, none⟩) n ca2, p1, p2, p3, p4, rfl, ?_, (fun h => by simpa using e1 (by simpa using h)), (fun h => by simpa using e3 (by simpa using h)), (fun h => by simpa using e5 (by simpa using h)), (fun _ => rfl), (fun h => by simpa using e8 (by simpa using h)), (fun h => by simpa using e9 (by simpa using h)), (fun h => by simpa using e10 (by simpa using h)), (fun _ => rfl), (fun h => by simpa using e12 (by simpa using h)), (fun h => by simpa using e13 (by simpa using h)), (fun h => by simpa using e14 (by simpa using h)), (fun _ => ⟨by simpa using hcl, by simpa using hl⟩)⟩
      show Mem w w.heap.size ([rwI (.slice (some ⟨g1, 0, none⟩) n k1) n os, rwI (.slice (some ⟨g2, 0, none⟩) n k2) n es, rwI (.slice (some ⟨g3, 0, none⟩) n k3) n ss]) (onL (done 1) [rwI f11 n os, rwI f12 n es, rwI f13 n ss] ++ (onL (done 3) [rwI f21 n os, rwI f22 n es, rwI f23 n ss] ++ (onL (done 5) [rwI f31 n os, rwI f32 n es, rwI f33 n ss] ++ (onL (done 7) [rwI ((.slice (some ⟨ga0, 0, none⟩) n ca0)) n os, rwI ((.slice (some ⟨ga1, 0, none⟩) n ca1)) n es, rwI ((.slice (some ⟨ga2, 0, none⟩) n ca2)) n ss] ++ ([]))))) (onX (done 8) p1 (cond (done 12) (Obj.cells #[.int .i64 wd, f11, f12, f13] 44 (0, 0)) (Obj.cells #[.int .i64 0, .slice none 0 0, .slice none 0 0, .slice none 0 0] 44 (0, 0))) ++ (onX (done 9) p2 (cond (done 13) (Obj.cells #[.int .i64 wd, f21, f22, f23] 44 (0, 0)) (Obj.cells #[.int .i64 0, .slice none 0 0, .slice none 0 0, .slice none 0 0] 44 (0, 0))) ++ (onX (done 10) p3 (cond (done 14) (Obj.cells #[.int .i64 wd, f31, f32, f33] 44 (0, 0)) (Obj.cells #[.int .i64 0, .slice none 0 0, .slice none 0 0, .slice none 0 0] 44 (0, 0))) ++ (onX (done 11) p4 (cond (true) (Obj.cells #[.int .i64 wd, (.slice (some ⟨ga0, 0, none⟩) n ca0), (.slice (some ⟨ga1, 0, none⟩) n ca1), (.slice (some ⟨ga2, 0, none⟩) n ca2)] 44 (0, 0)) (Obj.cells #[.int .i64 0, .slice none 0 0, .slice none 0 0, .slice none 0 0] 44 (0, 0))) ++ ([(q, Obj.cells #[.int .i64 wd, .slice (some ⟨g1, 0, none⟩) n k1, .slice (some ⟨g2, 0, none⟩) n k2, .slice (some ⟨g3, 0, none⟩) n k3] 44 (0, 0))]))))) _
      rw [onX_yes hl]
      exact H2
  case fin =>
    rintro done a W hall ⟨x56, x58, x60, x62, t14, t15, t16, t17, f11, f12, f13, f21, f22, f23, f31, f32, f33, f41, f42, f43, p1, p2, p3, p4, rfl, H, e1, e3, e5, e7, e8, e9, e10, e11, e12, e13, e14, e15⟩
    replace e1 := e1 (hall 1 (by simp))
    replace e3 := e3 (hall 3 (by simp))
    replace e5 := e5 (hall 5 (by simp))
    replace e7 := e7 (hall 7 (by simp))
    replace e8 := e8 (hall 8 (by simp))
    replace e9 := e9 (hall 9 (by simp))
    replace e10 := e10 (hall 10 (by simp))
    replace e11 := e11 (hall 11 (by simp))
    replace e12 := e12 (hall 12 (by simp))
    replace e13 := e13 (hall 13 (by simp))
    replace e14 := e14 (hall 14 (by simp))
    replace e15 := e15 (hall 15 (by simp))
    obtain rfl := e1
    obtain rfl := e8
    obtain rfl := e3
    obtain rfl := e9
    obtain rfl := e5
    obtain rfl := e10
    obtain rfl := e7
    obtain rfl := e11
    rw [onL_yes (hall 1 (by simp)), onL_yes (hall 3 (by simp)), onL_yes (hall 5 (by simp)), onL_yes (hall 7 (by simp)), onX_yes (hall 8 (by simp)), onX_yes (hall 9 (by simp)), onX_yes (hall 10 (by simp)), onX_yes (hall 11 (by simp)), hall 12 (by simp), hall 13 (by simp), hall 14 (by simp), hall 15 (by simp)] at H
    clear hall e12 e13 e14 e15
    obtain ⟨a11, b11, rfl⟩ : ∃ g cap, f11 = .slice (some ⟨g, 0, none⟩) n cap := form_pos (r := rwI f11 n os) (H.q _ (by simp)) (show 0 < n by have := HL2.out; omega)
    obtain ⟨a12, b12, rfl⟩ : ∃ g cap, f12 = .slice (some ⟨g, 0, none⟩) n cap := form_pos (r := rwI f12 n es) (H.q _ (by simp)) (show 0 < n by have := HL2.out; omega)
    obtain ⟨a13, b13, rfl⟩ : ∃ g cap, f13 = .slice (some ⟨g, 0, none⟩) n cap := form_pos (r := rwI f13 n ss) (H.q _ (by simp)) (show 0 < n by have := HL2.out; omega)
    obtain ⟨a21, b21, rfl⟩ : ∃ g cap, f21 = .slice (some ⟨g, 0, none⟩) n cap := form_pos (r := rwI f21 n os) (H.q _ (by simp)) (show 0 < n by have := HL2.out; omega)
    obtain ⟨a22, b22, rfl⟩ : ∃ g cap, f22 = .slice (some ⟨g, 0, none⟩) n cap := form_pos (r := rwI f22 n es) (H.q _ (by simp)) (show 0 < n by have := HL2.out; omega)
    obtain ⟨a23, b23, rfl⟩ : ∃ g cap, f23 = .slice (some ⟨g, 0, none⟩) n cap := form_pos (r := rwI f23 n ss) (H.q _ (by simp)) (show 0 < n by have := HL2.out; omega)
    obtain ⟨a31, b31, rfl⟩ : ∃ g cap, f31 = .slice (some ⟨g, 0, none⟩) n cap := form_pos (r := rwI f31 n os) (H.q _ (by simp)) (show 0 < n by have := HL2.out; omega)
    obtain ⟨a32, b32, rfl⟩ : ∃ g cap, f32 = .slice (some ⟨g, 0, none⟩) n cap := form_pos (r := rwI f32 n es) (H.q _ (by simp)) (show 0 < n by have := HL2.out; omega)
    obtain ⟨a33, b33, rfl⟩ : ∃ g cap, f33 = .slice (some ⟨g, 0, none⟩) n cap := form_pos (r := rwI f33 n ss) (H.q _ (by simp)) (show 0 < n by have := HL2.out; omega)
    obtain ⟨a41, b41, rfl⟩ : ∃ g cap, f41 = .slice (some ⟨g, 0, none⟩) n cap := form_pos (r := rwI f41 n os) (H.q _ (by simp)) (show 0 < n by have := HL2.out; omega)
    obtain ⟨a42, b42, rfl⟩ : ∃ g cap, f42 = .slice (some ⟨g, 0, none⟩) n cap := form_pos (r := rwI f42 n es) (H.q _ (by simp)) (show 0 < n by have := HL2.out; omega)
    obtain ⟨a43, b43, rfl⟩ : ∃ g cap, f43 = .slice (some ⟨g, 0, none⟩) n cap := form_pos (r := rwI f43 n ss) (H.q _ (by simp)) (show 0 < n by have := HL2.out; omega)
    have HM5 := Lib.hid H
    clear H HM4
    have HX8 : Hid (Mem w w.heap.size ([rwI (.slice (some ⟨g1, 0, none⟩) n k1) n os, rwI (.slice (some ⟨g2, 0, none⟩) n k2) n es, rwI (.slice (some ⟨g3, 0, none⟩) n k3) n ss]) [rwI (.slice (some ⟨a11, 0, none⟩) n b11) n os, rwI (.slice (some ⟨a12, 0, none⟩) n b12) n es, rwI (.slice (some ⟨a13, 0, none⟩) n b13) n ss, rwI (.slice (some ⟨a21, 0, none⟩) n b21) n os, rwI (.slice (some ⟨a22, 0, none⟩) n b22) n es, rwI (.slice (some ⟨a23, 0, none⟩) n b23) n ss, rwI (.slice (some ⟨a31, 0, none⟩) n b31) n os, rwI (.slice (some ⟨a32, 0, none⟩) n b32) n es, rwI (.slice (some ⟨a33, 0, none⟩) n b33) n ss, rwI (.slice (some ⟨a41, 0, none⟩) n b41) n os, rwI (.slice (some ⟨a42, 0, none⟩) n b42) n es, rwI (.slice (some ⟨a43, 0, none⟩) n b43) n ss] [(p1, Obj.cells #[.int .i64 wd, .slice (some ⟨a11, 0, none⟩) n b11, .slice (some ⟨a12, 0, none⟩) n b12, .slice (some ⟨a13, 0, none⟩) n b13] 44 (0, 0)), (p2, Obj.cells #[.int .i64 wd, .slice (some ⟨a21, 0, none⟩) n b21, .slice (some ⟨a22, 0, none⟩) n b22, .slice (some ⟨a23, 0, none⟩) n b23] 44 (0, 0)), (p3, Obj.cells #[.int .i64 wd, .slice (some ⟨a31, 0, none⟩) n b31, .slice (some ⟨a32, 0, none⟩) n b32, .slice (some ⟨a33, 0, none⟩) n b33] 44 (0, 0)), (p4, Obj.cells #[.int .i64 wd, .slice (some ⟨a41, 0, none⟩) n b41, .slice (some ⟨a42, 0, none⟩) n b42, .slice (some ⟨a43, 0, none⟩) n b43] 44 (0, 0)), (q, Obj.cells #[.int .i64 wd, .slice (some ⟨g1, 0, none⟩) n k1, .slice (some ⟨g2, 0, none⟩) n k2, .slice (some ⟨g3, 0, none⟩) n k3] 44 (0, 0))] W) := HM5
    clear HM5
    obtain ⟨px, hpx⟩ : ∃ x, x = p % wd := ⟨_, rfl⟩
    have hn100 : n ≤ 100 := hnC
    have hp100 : p < n := HP.out
    have e5 : (p : Int).tmod (wd : Int) = (px : Int) := by rw [hpx]; exact (Int.ofNat_tmod p wd).symm
    have hwn : ¬ wd = 0 := by omega
    have hz1 : IntKind.i64.wrap ((wd : Int) - 1) = (wd : Int) - 1 := IntWalk.i64_in _ (by omega)
    have HPX := Lib.hid hpx
    have HM6 := Lib.hid HX8.out.drew
    have hC8 : (fun W => W.cell? ⟨q, 0, none⟩ = some (.int .i64 wd)) W.drew := (HM6.out.box4 (q := q) (t := 44) (.tail _ (.tail _ (.tail _ (.tail _ (.head _)))))).1
    clear hpx HX8
    go_upto_region 8 with (fail)
    refine Lim.regC' (fun W => W.cell? ⟨q, 0, none⟩ = some (.int .i64 wd)) [] #[false, false, false, false, false, false, false, false] (by kernel_rfl) rfl ?_
    refine Lim.stepR 0 (fun _ => trivial) rfl (by kernel_rfl) (fun _ _ _ _ h => h) hC8 rfl ?_; apply Exists.intro; refine ⟨?_, ?_⟩
    · rintro w r1; go_simp; try with_reducible rfl
    simp only [Act.put, List.setIfInBounds_toArray, List.set_cons_succ, List.set_cons_zero]
    refine Lim.stepR 1 (fun _ => trivial) rfl (by kernel_rfl) (fun _ _ _ _ h => h) hC8 rfl ?_; apply Exists.intro; refine ⟨?_, ?_⟩
    · rintro w r1; go_simp; try with_reducible rfl
    simp only [Act.put, List.setIfInBounds_toArray, List.set_cons_succ, List.set_cons_zero]
    refine Lim.stepR 2 (fun _ => trivial) rfl (by kernel_rfl) (fun _ _ _ _ h => h) hC8 rfl ?_; apply Exists.intro; refine ⟨?_, ?_⟩
    · rintro w r1; go_simp; try with_reducible rfl
    simp only [Act.put, List.setIfInBounds_toArray, List.set_cons_succ, List.set_cons_zero]
    refine Lim.stepR 3 (fun _ => trivial) rfl (by kernel_rfl) (fun _ _ _ _ h => h) hC8 rfl ?_; apply Exists.intro; refine ⟨?_, ?_⟩
    · rintro w r1; go_simp; try with_reducible rfl
    simp only [Act.put, List.setIfInBounds_toArray, List.set_cons_succ, List.set_cons_zero]
    refine Lim.stepR 4 (fun _ => trivial) rfl (by kernel_rfl) (fun _ _ _ _ h => h) hC8 rfl ?_; apply Exists.intro; refine ⟨?_, ?_⟩
    · rintro w r1; go_simp; try with_reducible rfl
    simp only [Act.put, List.setIfInBounds_toArray, List.set_cons_succ, List.set_cons_zero]
    refine Lim.stepR 5 (fun _ => trivial) rfl (by kernel_rfl) (fun _ _ _ _ h => h) hC8 rfl ?_; apply Exists.intro; refine ⟨?_, ?_⟩
    · rintro w r1; go_simp; try with_reducible rfl
    simp only [Act.put, List.setIfInBounds_toArray, List.set_cons_succ, List.set_cons_zero]
    refine Lim.stepR 6 (fun _ => trivial) rfl (by kernel_rfl) (fun _ _ _ _ h => h) hC8 rfl ?_; apply Exists.intro; refine ⟨?_, ?_⟩
    · rintro w r1; go_simp; try with_reducible rfl
    simp only [Act.put, List.setIfInBounds_toArray, List.set_cons_succ, List.set_cons_zero]
    refine Lim.stepR 7 (fun _ => trivial) rfl (by kernel_rfl) (fun _ _ _ _ h => h) hC8 rfl ?_; apply Exists.intro; refine ⟨?_, ?_⟩
    · rintro w r1; go_simp; try with_reducible rfl
    simp only [Act.put, List.setIfInBounds_toArray, List.set_cons_succ, List.set_cons_zero]
    refine Lim.stepD (by kernel_rfl) ?_
    clear hC8 e5 hz1
    generalize W.drew = w6 at HM6 ⊢
    go_upto_if 70 with (fail)
    obtain ⟨bb, hbb⟩ : ∃ bb, bb = decide ((px : Int) < (wd : Int) - 1) := ⟨_, rfl⟩
    rw [← hbb]
    have HBB := Lib.hid hbb
    clear hbb
    go_cut [70] from 70 to 78 (fun s70 wc => ∃ (es1 : List Int) (u : Int), Hid (es1.length = n ∧ (0 ≤ u ∧ u ≤ up) ∧ (p % wd + 1 = wd → u = 0) ∧ ∀ a, a < n → es1.getD a 0 = es.getD a 0 + if a = p then u else 0) ∧ Hid (Mem w w.heap.size ([rwI (.slice (some ⟨g1, 0, none⟩) n k1) n os, rwI (.slice (some ⟨g2, 0, none⟩) n k2) n es, rwI (.slice (some ⟨g3, 0, none⟩) n k3) n ss]) [rwI (.slice (some ⟨a11, 0, none⟩) n b11) n os, rwI (.slice (some ⟨a12, 0, none⟩) n b12) n es1, rwI (.slice (some ⟨a13, 0, none⟩) n b13) n ss, rwI (.slice (some ⟨a21, 0, none⟩) n b21) n os, rwI (.slice (some ⟨a22, 0, none⟩) n b22) n es, rwI (.slice (some ⟨a23, 0, none⟩) n b23) n ss, rwI (.slice (some ⟨a31, 0, none⟩) n b31) n os, rwI (.slice (some ⟨a32, 0, none⟩) n b32) n es, rwI (.slice (some ⟨a33, 0, none⟩) n b33) n ss, rwI (.slice (some ⟨a41, 0, none⟩) n b41) n os, rwI (.slice (some ⟨a42, 0, none⟩) n b42) n es, rwI (.slice (some ⟨a43, 0, none⟩) n b43) n ss] [(p1, Obj.cells #[.int .i64 wd, .slice (some ⟨a11, 0, none⟩) n b11, .slice (some ⟨a12, 0, none⟩) n b12, .slice (some ⟨a13, 0, none⟩) n b13] 44 (0, 0)), (p2, Obj.cells #[.int .i64 wd, .slice (some ⟨a21, 0, none⟩) n b21, .slice (some ⟨a22, 0, none⟩) n b22, .slice (some ⟨a23, 0, none⟩) n b23] 44 (0, 0)), (p3, Obj.cells #[.int .i64 wd, .slice (some ⟨a31, 0, none⟩) n b31, .slice (some ⟨a32, 0, none⟩) n b32, .slice (some ⟨a33, 0, none⟩) n b33] 44 (0, 0)), (p4, Obj.cells #[.int .i64 wd, .slice (some ⟨a41, 0, none⟩) n b41, .slice (some ⟨a42, 0, none⟩) n b42, .slice (some ⟨a43, 0, none⟩) n b43] 44 (0, 0)), (q, Obj.cells #[.int .i64 wd, .slice (some ⟨g1, 0, none⟩) n k1, .slice (some ⟨g2, 0, none⟩) n k2, .slice (some ⟨g3, 0, none⟩) n k3] 44 (0, 0))] wc))
    case first =>
      cases bb with
      | false =>
        go_wp2
        go_meet
        case rel => exact ⟨es, 0, Lib.hid ⟨HLE.out.1.2.1, by omega, fun _ => rfl, fun a _ => by split <;> omega⟩, HM6⟩
      | true =>
        obtain ⟨b0, b1, b2, b3⟩ := HM6.out.box4 (q := p1) (t := 44) (.head _)
        obtain ⟨ep, hep⟩ : ∃ ep, ep = es.getD p 0 := ⟨_, rfl⟩
        have d0 := HM6.out.cellI (g := a12) (n := n) (cap := b12) (l := es) (j := p) (.inr (.tail _ (.head _))) (by rw [HLE.out.1.2.1]; exact hp100)
        rw [← hep] at d0
        have f0 := row_frz (r := rwI (.slice (some ⟨a12, 0, none⟩) n b12) n es) (HM6.out.q _ (.tail _ (.head _))) rfl p
        have he1 : 0 ≤ ep ∧ ep ≤ 11 := by rw [hep]; exact ⟨(HL.out.1.e p (by rw [← HN.out]; exact hp100)).1, (HL.out.2.2.2.2.1 p (by rw [← HN.out]; exact hp100)).1⟩
        have hup : up < 50 := HUP.out
        have e6 : IntKind.i64.wrap (ep + (up : Int)) = ep + (up : Int) := IntWalk.i64_in _ (by omega)
        have h64 : (p : Int) < (n : Int) := by omega
        have HM7 := Lib.hid (Mem.setI (Q1 := [rwI (.slice (some ⟨a11, 0, none⟩) n b11) n os]) HM6.out p (ep + (up : Int)))
        have HEP := Lib.hid hep
        clear hep he1 hup
        go_wp2_with fail
        go_meet
        case rel => exact ⟨es.set p (ep + (up : Int)), up, Lib.hid ⟨by rw [List.length_set]; exact HLE.out.1.2.1, by omega, fun h => by
            have h2 := HBB.out
            rw [HPX.out] at h2
            have h3 := of_decide_eq_true h2.symm
            omega, fun a ha => by
            rw [getD_setI]
            by_cases e : a = p
            · rw [if_pos ⟨e.symm, by rw [HLE.out.1.2.1]; exact ha⟩, if_pos e, HEP.out, e]
            · rw [if_neg (fun h => e h.1.symm), if_neg e, Int.add_zero]⟩, HM7⟩
    case rest =>
      obtain ⟨es1, u, HE1, HM7⟩ := hcut
      clear HM6 HBB HPX
      obtain ⟨c0, c1, c2, c3⟩ := HM7.out.box4 (q := q) (t := 44) (.tail _ (.tail _ (.tail _ (.tail _ (.head _)))))
      obtain ⟨op, hop⟩ : ∃ o, o = os.getD p 0 := ⟨_, rfl⟩
      have d0 := HM7.out.cellI (g := g1) (n := n) (cap := k1) (l := os) (j := p) (.inl (.head _)) (by rw [HLE.out.1.1]; exact hp100)
      rw [← hop] at d0
      have h64 : (p : Int) < (n : Int) := by omega
      have HOP := Lib.hid hop
      clear hop
      go_upto_if 84 with (fail)
      obtain ⟨bb, hbb⟩ : ∃ bb, bb = (op == -1) := ⟨_, rfl⟩
      rw [← hbb]
      have HBB := Lib.hid hbb
      clear hbb d0 c0 c1 c2 c3
      go_cut [84] from 79 to 90 (fun s84 wc => ∃ (os1 : List Int), Hid (os1.length = n ∧ ∀ a, a < n → os1.getD a 0 = os.getD a 0 ∨ (os.getD a 0 = -1 ∧ (os1.getD a 0 = 0 ∨ os1.getD a 0 = 1))) ∧ Hid (Mem w w.heap.size ([rwI (.slice (some ⟨g1, 0, none⟩) n k1) n os, rwI (.slice (some ⟨g2, 0, none⟩) n k2) n es, rwI (.slice (some ⟨g3, 0, none⟩) n k3) n ss]) [rwI (.slice (some ⟨a11, 0, none⟩) n b11) n os, rwI (.slice (some ⟨a12, 0, none⟩) n b12) n es1, rwI (.slice (some ⟨a13, 0, none⟩) n b13) n ss, rwI (.slice (some ⟨a21, 0, none⟩) n b21) n os1, rwI (.slice (some ⟨a22, 0, none⟩) n b22) n es, rwI (.slice (some ⟨a23, 0, none⟩) n b23) n ss, rwI (.slice (some ⟨a31, 0, none⟩) n b31) n os, rwI (.slice (some ⟨a32, 0, none⟩) n b32) n es, rwI (.slice (some ⟨a33, 0, none⟩) n b33) n ss, rwI (.slice (some ⟨a41, 0, none⟩) n b41) n os, rwI (.slice (some ⟨a42, 0, none⟩) n b42) n es, rwI (.slice (some ⟨a43, 0, none⟩) n b43) n ss] [(p1, Obj.cells #[.int .i64 wd, .slice (some ⟨a11, 0, none⟩) n b11, .slice (some ⟨a12, 0, none⟩) n b12, .slice (some ⟨a13, 0, none⟩) n b13] 44 (0, 0)), (p2, Obj.cells #[.int .i64 wd, .slice (some ⟨a21, 0, none⟩) n b21, .slice (some ⟨a22, 0, none⟩) n b22, .slice (some ⟨a23, 0, none⟩) n b23] 44 (0, 0)), (p3, Obj.cells #[.int .i64 wd, .slice (some ⟨a31, 0, none⟩) n b31, .slice (some ⟨a32, 0, none⟩) n b32, .slice (some ⟨a33, 0, none⟩) n b33] 44 (0, 0)), (p4, Obj.cells #[.int .i64 wd, .slice (some ⟨a41, 0, none⟩) n b41, .slice (some ⟨a42, 0, none⟩) n b42, .slice (some ⟨a43, 0, none⟩) n b43] 44 (0, 0)), (q, Obj.cells #[.int .i64 wd, .slice (some ⟨g1, 0, none⟩) n k1, .slice (some ⟨g2, 0, none⟩) n k2, .slice (some ⟨g3, 0, none⟩) n k3] 44 (0, 0))] wc))
      case first =>
        cases bb with
        | false =>
          go_wp2
          go_meet
          case rel => exact ⟨os, Lib.hid ⟨HLE.out.1.1, fun a _ => .inl rfl⟩, HM7⟩
        | true =>
          obtain ⟨b0, b1, b2, b3⟩ := HM7.out.box4 (q := p2) (t := 44) (.tail _ (.head _))
          have d0 := HM7.out.cellI (g := a21) (n := n) (cap := b21) (l := os) (j := p) (.inr (.tail _ (.tail _ (.tail _ (.head _))))) (by rw [HLE.out.1.1]; exact hp100)
          have f0 := row_frz (r := rwI (.slice (some ⟨a21, 0, none⟩) n b21) n os) (HM7.out.q _ (.tail _ (.tail _ (.tail _ (.head _))))) rfl p
          obtain ⟨u2, hu2⟩ : ∃ x, x = up % 2 := ⟨_, rfl⟩
          have e6 : (up : Int).tmod 2 = (u2 : Int) := by rw [hu2]; exact (Int.ofNat_tmod up 2).symm
          have HM8 := Lib.hid (Mem.setI (Q1 := [rwI (.slice (some ⟨a11, 0, none⟩) n b11) n os, rwI (.slice (some ⟨a12, 0, none⟩) n b12) n es1, rwI (.slice (some ⟨a13, 0, none⟩) n b13) n ss]) HM7.out p (u2 : Int))
          have HU2 : Hid (u2 = 0 ∨ u2 = 1) := Lib.hid (by omega)
          clear hu2
          go_wp2_with fail
          go_meet
          case rel => exact ⟨os.set p (u2 : Int), Lib.hid ⟨by rw [List.length_set]; exact HLE.out.1.1, fun a ha => by
              rw [getD_setI]
              by_cases e : a = p
              · rw [if_pos ⟨e.symm, by rw [HLE.out.1.1]; exact ha⟩]
                right
                have h2 := HBB.out
                rw [HOP.out] at h2
                have h3 := HU2.out
                refine ⟨by rw [e]; exact eq_of_beq h2.symm, by omega⟩
              · rw [if_neg (fun h => e h.1.symm)]; exact .inl rfl⟩, HM8⟩
      case rest =>
        obtain ⟨os1, HO1, HM8⟩ := hcut
        clear HM7 HBB HOP
        obtain ⟨w8, rfl⟩ : ∃ w8, w8 = wc := ⟨_, rfl⟩
        have hhi : 2 ≤ hi ∧ hi ≤ 6 := ⟨HL.out.2.2.1, HL.out.2.2.2.1⟩
        have e5 : (n : Int).tdiv (wd : Int) = (hi : Int) := by rw [← Int.ofNat_tdiv, HN.out, Nat.mul_div_cancel_left _ (by omega)]
        have e6 : IntKind.i64.wrap (hi : Int) = (hi : Int) := IntWalk.i64_in _ (by omega)
        have HM9 := Lib.hid HM8.out.drew
        have hC12 : (fun W => W.cell? ⟨q, 0, none⟩ = some (.int .i64 wd)) w8.drew := (HM9.out.box4 (q := q) (t := 44) (.tail _ (.tail _ (.tail _ (.tail _ (.head _)))))).1
        obtain ⟨i0, hi0, hz0, hz1, hz2⟩ := info_parts Try.infoInt
        have HI := Lib.hid (And.intro hi0 (And.intro hz0 (And.intro hz1 hz2)))
        clear HM8 hi0 hz0 hz1 hz2
        go_upto_region 12 with (fail)
        refine Lim.regC' (fun W => W.cell? ⟨q, 0, none⟩ = some (.int .i64 wd)) [] #[false, false, false, false, false, false, false, false, false, false, false, false, false] (by kernel_rfl) rfl ?_
        refine Lim.stepR 0 (fun _ => trivial) rfl (by kernel_rfl) (fun _ _ _ _ h => h) hC12 rfl ?_; apply Exists.intro; refine ⟨?_, ?_⟩
        · rintro w r1; go_simp; try with_reducible rfl
        simp only [Act.put, List.setIfInBounds_toArray, List.set_cons_succ, List.set_cons_zero]
        refine Lim.stepR 1 (fun _ => trivial) rfl (by kernel_rfl) (fun _ _ _ _ h => h) hC12 rfl ?_; apply Exists.intro; refine ⟨?_, ?_⟩
        · rintro w r1; go_simp; try with_reducible rfl
        simp only [Act.put, List.setIfInBounds_toArray, List.set_cons_succ, List.set_cons_zero]
        refine Lim.stepR 2 (fun _ => trivial) rfl (by kernel_rfl) (fun _ _ _ _ h => h) hC12 rfl ?_; apply Exists.intro; refine ⟨?_, ?_⟩
        · rintro w r1; go_simp; try with_reducible rfl
        simp only [Act.put, List.setIfInBounds_toArray, List.set_cons_succ, List.set_cons_zero]
        refine Lim.stepR 3 (fun _ => trivial) rfl (by kernel_rfl) (fun _ _ _ _ h => h) hC12 rfl ?_; apply Exists.intro; refine ⟨?_, ?_⟩
        · rintro w r1; go_simp; try with_reducible rfl
        simp only [Act.put, List.setIfInBounds_toArray, List.set_cons_succ, List.set_cons_zero]
        refine Lim.stepR 4 (fun _ => trivial) rfl (by kernel_rfl) (fun _ _ _ _ h => h) hC12 rfl ?_; apply Exists.intro; refine ⟨?_, ?_⟩
        · rintro w r1; go_simp; try with_reducible rfl
        simp only [Act.put, List.setIfInBounds_toArray, List.set_cons_succ, List.set_cons_zero]
        refine Lim.stepR 6 (fun _ => trivial) rfl (by kernel_rfl) (fun _ _ _ _ h => h) hC12 rfl ?_; apply Exists.intro; refine ⟨?_, ?_⟩
        · rintro w r1; go_simp; try with_reducible rfl
        simp only [Act.put, List.setIfInBounds_toArray, List.set_cons_succ, List.set_cons_zero]
        refine Lim.stepR 8 (fun _ => trivial) rfl (by kernel_rfl) (fun _ _ _ _ h => h) hC12 rfl ?_; apply Exists.intro; refine ⟨?_, ?_⟩
        · rintro w r1; go_simp; try with_reducible rfl
        simp only [Act.put, List.setIfInBounds_toArray, List.set_cons_succ, List.set_cons_zero]
        clear hC12
        refine Lim.parC [5, 7, 9, 10, 11, 12] (fun done a W => ∃ x96 x98 x100 x101 t18 p5, a = { tmps := #[.slice xa l.length xc, .int .i64 wh, .int .i64 mo, undef, undef, undef, .bool false, .pointer (some ⟨q, 0, none⟩), .int .i64 n, .int .i64 p, .int .i64 up, u0, .int .i64 best, .int .i64 0, .pointer (some ⟨p1, 0, none⟩), .pointer (some ⟨p2, 0, none⟩), .pointer (some ⟨p3, 0, none⟩), .pointer (some ⟨p4, 0, none⟩), t18, undef, undef, undef, undef, undef, undef, undef, undef, undef, undef, undef, undef, undef, undef, undef, undef, undef, .slice xa l.length xc, .pointer (some ⟨w.heap.size, 0, none⟩), .agg #[.int .i64 wd, .slice (some ⟨g1, 0, none⟩) n k1, .slice (some ⟨g2, 0, none⟩) n k2, .slice (some ⟨g3, 0, none⟩) n k3], .pointer (some ⟨q, 1, none⟩), .slice (some ⟨g1, 0, none⟩) n k1, .int .i64 n, .int .i64 wh, .int .i64 n, .int .i64 p, .int .i64 mo, .int .i64 up, .tuple #[u0, .int .i64 best, .int .i64 0], .agg #[.int .i64 wd, .slice (some ⟨g1, 0, none⟩) n k1, .slice (some ⟨g2, 0, none⟩) n k2, .slice (some ⟨g3, 0, none⟩) n k3], .tuple #[u0, .int .i64 best, .int .i64 0], u0, .int .i64 best, .int .i64 0, .int .i64 0, .bool false, .agg #[.int .i64 wd, .slice (some ⟨g1, 0, none⟩) n k1, .slice (some ⟨g2, 0, none⟩) n k2, .slice (some ⟨g3, 0, none⟩) n k3], .agg #[.int .i64 wd, .slice (some ⟨a11, 0, none⟩) n b11, .slice (some ⟨a12, 0, none⟩) n b12, .slice (some ⟨a13, 0, none⟩) n b13], .agg #[.int .i64 wd, .slice (some ⟨g1, 0, none⟩) n k1, .slice (some ⟨g2, 0, none⟩) n k2, .slice (some ⟨g3, 0, none⟩) n k3], .agg #[.int .i64 wd, .slice (some ⟨a21, 0, none⟩) n b21, .slice (some ⟨a22, 0, none⟩) n b22, .slice (some ⟨a23, 0, none⟩) n b23], .agg #[.int .i64 wd, .slice (some ⟨g1, 0, none⟩) n k1, .slice (some ⟨g2, 0, none⟩) n k2, .slice (some ⟨g3, 0, none⟩) n k3], .agg #[.int .i64 wd, .slice (some ⟨a31, 0, none⟩) n b31, .slice (some ⟨a32, 0, none⟩) n b32, .slice (some ⟨a33, 0, none⟩) n b33], .agg #[.int .i64 wd, .slice (some ⟨g1, 0, none⟩) n k1, .slice (some ⟨g2, 0, none⟩) n k2, .slice (some ⟨g3, 0, none⟩) n k3], .agg #[.int .i64 wd, .slice (some ⟨a41, 0, none⟩) n b41, .slice (some ⟨a42, 0, none⟩) n b42, .slice (some ⟨a43, 0, none⟩) n b43], .int .i64 p, .pointer (some ⟨q, 0, none⟩), .int .i64 wd, .int .i64 px, .pointer (some ⟨q, 0, none⟩), .int .i64 wd, .int .i64 (wd - 1), u70, u71, u72, u73, u74, u75, u76, u77, u78, u79, u80, u81, u82, u83, u84, u85, u86, u87, u88, u89, u90, .int .i64 n, .pointer (some ⟨q, 0, none⟩), .int .i64 wd, .int .i64 hi, .int .i64 n, x96, .int .i64 n, x98, .int .i64 n, x100, x101, undef, undef, undef, undef, undef, undef, undef, undef, undef, undef, undef, undef, undef, undef, undef, undef, undef, undef, undef, undef, undef, undef, undef, undef, undef, undef, undef, undef, undef, undef, undef, undef, undef, undef, undef, undef, undef, undef, undef, undef, undef, undef, undef, undef, undef, undef, undef, undef, undef, undef, undef, undef, undef, undef, undef, undef, undef, undef, undef, undef, undef, undef, undef, undef, undef, undef, undef, undef, undef, undef, undef, undef, undef, undef, undef, undef, undef, undef, undef, undef, undef, undef, undef, undef, undef, undef, undef, undef, undef, undef, undef, undef, undef, undef, undef, undef, undef, undef, undef, undef, undef, undef, undef, undef, undef, undef, undef, undef, undef, undef, undef, undef, undef, undef, undef, undef, undef, undef, undef, undef, undef, undef, undef, undef, undef, undef, undef, undef, undef, undef, undef, undef, undef, undef, undef, undef, undef, undef, undef, undef, undef, undef, undef, undef, undef, undef, undef, undef, undef, undef, undef, undef, undef, undef, undef, undef], defers := [] } ∧ Mem w w.heap.size ([rwI (.slice (some ⟨g1, 0, none⟩) n k1) n os, rwI (.slice (some ⟨g2, 0, none⟩) n k2) n es, rwI (.slice (some ⟨g3, 0, none⟩) n k3) n ss]) (onL (done 5) [rwI x96 n (zeros n)] ++ (onL (done 7) [rwI x98 n (zeros n)] ++ (onL (done 9) [rwI x100 n (zeros n)] ++ ([rwI (.slice (some ⟨a11, 0, none⟩) n b11) n os, rwI (.slice (some ⟨a12, 0, none⟩) n b12) n es1, rwI (.slice (some ⟨a13, 0, none⟩) n b13) n ss, rwI (.slice (some ⟨a21, 0, none⟩) n b21) n os1, rwI (.slice (some ⟨a22, 0, none⟩) n b22) n es, rwI (.slice (some ⟨a23, 0, none⟩) n b23) n ss, rwI (.slice (some ⟨a31, 0, none⟩) n b31) n os, rwI (.slice (some ⟨a32, 0, none⟩) n b32) n es, rwI (.slice (some ⟨a33, 0, none⟩) n b33) n ss, rwI (.slice (some ⟨a41, 0, none⟩) n b41) n os, rwI (.slice (some ⟨a42, 0, none⟩) n b42) n es, rwI (.slice (some ⟨a43, 0, none⟩) n b43) n ss])))) (onX (done 11) p5 (cond (done 12) (Obj.cells #[.int .i64 hi, x96, x98, x100] 44 (0, 0)) (Obj.cells #[.int .i64 0, .slice none 0 0, .slice none 0 0, .slice none 0 0] 44 (0, 0))) ++ ([(p1, Obj.cells #[.int .i64 wd, .slice (some ⟨a11, 0, none⟩) n b11, .slice (some ⟨a12, 0, none⟩) n b12, .slice (some ⟨a13, 0, none⟩) n b13] 44 (0, 0)), (p2, Obj.cells #[.int .i64 wd, .slice (some ⟨a21, 0, none⟩) n b21, .slice (some ⟨a22, 0, none⟩) n b22, .slice (some ⟨a23, 0, none⟩) n b23] 44 (0, 0)), (p3, Obj.cells #[.int .i64 wd, .slice (some ⟨a31, 0, none⟩) n b31, .slice (some ⟨a32, 0, none⟩) n b32, .slice (some ⟨a33, 0, none⟩) n b33] 44 (0, 0)), (p4, Obj.cells #[.int .i64 wd, .slice (some ⟨a41, 0, none⟩) n b41, .slice (some ⟨a42, 0, none⟩) n b42, .slice (some ⟨a43, 0, none⟩) n b43] 44 (0, 0)), (q, Obj.cells #[.int .i64 wd, .slice (some ⟨g1, 0, none⟩) n k1, .slice (some ⟨g2, 0, none⟩) n k2, .slice (some ⟨g3, 0, none⟩) n k3] 44 (0, 0))])) W ∧ (done 10 = true → x101 = .agg #[.int .i64 hi, x96, x98, x100] ∧ done 5 = true ∧ done 7 = true ∧ done 9 = true) ∧ (done 11 = true → t18 = .pointer (some ⟨p5, 0, none⟩)) ∧ (done 12 = true → done 10 = true ∧ done 11 = true)) (fun _ => trivial) (by kernel_rfl) rfl rfl ?hC ?step ?fin ⟨_, _, _, _, _, 0, rfl, HM9.out, fun h => (by cases h), fun h => (by cases h), fun h => (by cases h)⟩
        case hC =>
          rintro done a W ⟨x96, x98, x100, x101, t18, p5, rfl, H, e10, e11, e12⟩
          exact (H.box4 (q := q) (a := .int .i64 wd) (b := .slice (some ⟨g1, 0, none⟩) n k1) (e := .slice (some ⟨g2, 0, none⟩) n k2) (f := .slice (some ⟨g3, 0, none⟩) n k3) (t := 44) (List.mem_append_right _ (.tail _ (.tail _ (.tail _ (.tail _ (.head _))))))).1
        case step =>
          intro i o hi ho done a W hd hdep hS K hK
          obtain ⟨x96, x98, x100, x101, t18, p5, rfl, H, e10, e11, e12⟩ := hS
          simp only [List.mem_cons, List.not_mem_nil, or_false] at hi
          rcases hi with rfl | rfl | rfl | rfl | rfl | rfl
          · cases ho
            clear hdep
            have n10 : done 10 = false := by
              cases h : done 10 with
              | false => rfl
              | true => exact absurd ((e10 h).2.1) (by rw [hd]; decide)
            have n12 : done 12 = false := by
              cases h : done 12 with
              | false => rfl
              | true => exact absurd (e12 h).1 (by rw [n10]; decide)
            rw [onL_no hd, n12] at H
            obtain ⟨v', W', hrun, ho1, hb, -⟩ := make_zeros (W := W) HI.out (n := n) (by omega)
            refine make_upon rfl rfl rfl hrun (hK _ _ ?_)
            simp only [Act.put, List.setIfInBounds_toArray, List.set_cons_succ, List.set_cons_zero]
            have H2 := (H.addQs hb (P := [rwI v' n (zeros n)]) (Mem.one (r := rwI v' n (zeros n)) ho1) (List.pairwise_singleton _ _)).permQ (List.Perm.refl _)
            refine ⟨v', x98, x100, x101, t18, p5, rfl, ?_, (fun h => absurd (show done 10 = true by simpa using h) (by rw [n10]; decide)), (fun h => by simpa using e11 (by simpa using h)), (fun h => by simpa using e12 (by simpa using h))⟩
            show Mem w w.heap.size ([rwI (.slice (some ⟨g1, 0, none⟩) n k1) n os, rwI (.slice (some ⟨g2, 0, none⟩) n k2) n es, rwI (.slice (some ⟨g3, 0, none⟩) n k3) n ss]) (onL (true) [rwI v' n (zeros n)] ++ (onL (done 7) [rwI x98 n (zeros n)] ++ (onL (done 9) [rwI x100 n (zeros n)] ++ ([rwI (.slice (some ⟨a11, 0, none⟩) n b11) n os, rwI (.slice (some ⟨a12, 0, none⟩) n b12) n es1, rwI (.slice (some ⟨a13, 0, none⟩) n b13) n ss, rwI (.slice (some ⟨a21, 0, none⟩) n b21) n os1, rwI (.slice (some ⟨a22, 0, none⟩) n b22) n es, rwI (.slice (some ⟨a23, 0, none⟩) n b23) n ss, rwI (.slice (some ⟨a31, 0, none⟩) n b31) n os, rwI (.slice (some ⟨a32, 0, none⟩) n b32) n es, rwI (.slice (some ⟨a33, 0, none⟩) n b33) n ss, rwI (.slice (some ⟨a41, 0, none⟩) n b41) n os, rwI (.slice (some ⟨a42, 0, none⟩) n b42) n es, rwI (.slice (some ⟨a43, 0, none⟩) n b43) n ss])))) (onX (done 11) p5 (cond (done 12) (Obj.cells #[.int .i64 hi, v', x98, x100] 44 (0, 0)) (Obj.cells #[.int .i64 0, .slice none 0 0, .slice none 0 0, .slice none 0 0] 44 (0, 0))) ++ ([(p1, Obj.cells #[.int .i64 wd, .slice (some ⟨a11, 0, none⟩) n b11, .slice (some ⟨a12, 0, none⟩) n b12, .slice (some ⟨a13, 0, none⟩) n b13] 44 (0, 0)), (p2, Obj.cells #[.int .i64 wd, .slice (some ⟨a21, 0, none⟩) n b21, .slice (some ⟨a22, 0, none⟩) n b22, .slice (some ⟨a23, 0, none⟩) n b23] 44 (0, 0)), (p3, Obj.cells #[.int .i64 wd, .slice (some ⟨a31, 0, none⟩) n b31, .slice (some ⟨a32, 0, none⟩) n b32, .slice (some ⟨a33, 0, none⟩) n b33] 44 (0, 0)), (p4, Obj.cells #[.int .i64 wd, .slice (some ⟨a41, 0, none⟩) n b41, .slice (some ⟨a42, 0, none⟩) n b42, .slice (some ⟨a43, 0, none⟩) n b43] 44 (0, 0)), (q, Obj.cells #[.int .i64 wd, .slice (some ⟨g1, 0, none⟩) n k1, .slice (some ⟨g2, 0, none⟩) n k2, .slice (some ⟨g3, 0, none⟩) n k3] 44 (0, 0))])) W'
            rw [n12]
            exact H2
          · cases ho
            clear hdep
            have n10 : done 10 = false := by
              cases h : done 10 with
              | false => rfl
              | true => exact absurd ((e10 h).2.2.1) (by rw [hd]; decide)
            have n12 : done 12 = false := by
              cases h : done 12 with
              | false => rfl
              | true => exact absurd (e12 h).1 (by rw [n10]; decide)
            rw [onL_no hd, n12] at H
            obtain ⟨v', W', hrun, ho1, hb, -⟩ := make_zeros (W := W) HI.out (n := n) (by omega)
            refine make_upon rfl rfl rfl hrun (hK _ _ ?_)
            simp only [Act.put, List.setIfInBounds_toArray, List.set_cons_succ, List.set_cons_zero]
            have H2 := (H.addQs hb (P := [rwI v' n (zeros n)]) (Mem.one (r := rwI v' n (zeros n)) ho1) (List.pairwise_singleton _ _)).permQ (((List.perm_append_comm_assoc _ _ _).trans (List.Perm.append_left _ (List.Perm.refl _))))
            refine ⟨x96, v', x100, x101, t18, p5, rfl, ?_, (fun h => absurd (show done 10 = true by simpa using h) (by rw [n10]; decide)), (fun h => by simpa using e11 (by simpa using h)), (fun h => by simpa using e12 (by simpa using h))⟩
            show Mem w w.heap.size ([rwI (.slice (some ⟨g1, 0, none⟩) n k1) n os, rwI (.slice (some ⟨g2, 0, none⟩) n k2) n es, rwI (.slice (some ⟨g3, 0, none⟩) n k3) n ss]) (onL (done 5) [rwI x96 n (zeros n)] ++ (onL (true) [rwI v' n (zeros n)] ++ (onL (done 9) [rwI x100 n (zeros n)] ++ ([rwI (.slice (some ⟨a11, 0, none⟩) n b11) n os, rwI (.slice (some ⟨a12, 0, none⟩) n b12) n es1, rwI (.slice (some ⟨a13, 0, none⟩) n b13) n ss, rwI (.slice (some ⟨a21, 0, none⟩) n b21) n os1, rwI (.slice (some ⟨a22, 0, none⟩) n b22) n es, rwI (.slice (some ⟨a23, 0, none⟩) n b23) n ss, rwI (.slice (some ⟨a31, 0, none⟩) n b31) n os, rwI (.slice (some ⟨a32, 0, none⟩) n b32) n es, rwI (.slice (some ⟨a33, 0, none⟩) n b33) n ss, rwI (.slice (some ⟨a41, 0, none⟩) n b41) n os, rwI (.slice (some ⟨a42, 0, none⟩) n b42) n es, rwI (.slice (some ⟨a43, 0, none⟩) n b43) n ss])))) (onX (done 11) p5 (cond (done 12) (Obj.cells #[.int .i64 hi, x96, v', x100] 44 (0, 0)) (Obj.cells #[.int .i64 0, .slice none 0 0, .slice none 0 0, .slice none 0 0] 44 (0, 0))) ++ ([(p1, Obj.cells #[.int .i64 wd, .slice (some ⟨a11, 0, none⟩) n b11, .slice (some ⟨a12, 0, none⟩) n b12, .slice (some ⟨a13, 0, none⟩) n b13] 44 (0, 0)), (p2, Obj.cells #[.int .i64 wd, .slice (some ⟨a21, 0, none⟩) n b21, .slice (some ⟨a22, 0, none⟩) n b22, .slice (some ⟨a23, 0, none⟩) n b23] 44 (0, 0)), (p3, Obj.cells #[.int .i64 wd, .slice (some ⟨a31, 0, none⟩) n b31, .slice (some ⟨a32, 0, none⟩) n b32, .slice (some ⟨a33, 0, none⟩) n b33] 44 (0, 0)), (p4, Obj.cells #[.int .i64 wd, .slice (some ⟨a41, 0, none⟩) n b41, .slice (some ⟨a42, 0, none⟩) n b42, .slice (some ⟨a43, 0, none⟩) n b43] 44 (0, 0)), (q, Obj.cells #[.int .i64 wd, .slice (some ⟨g1, 0, none⟩) n k1, .slice (some ⟨g2, 0, none⟩) n k2, .slice (some ⟨g3, 0, none⟩) n k3] 44 (0, 0))])) W'
            rw [n12]
            exact H2
          · cases ho
            clear hdep
            have n10 : done 10 = false := by
              cases h : done 10 with
              | false => rfl
              | true => exact absurd ((e10 h).2.2.2) (by rw [hd]; decide)
            have n12 : done 12 = false := by
              cases h : done 12 with
              | false => rfl
              | true => exact absurd (e12 h).1 (by rw [n10]; decide)
            rw [onL_no hd, n12] at H
            obtain ⟨v', W', hrun, ho1, hb, -⟩ := make_zeros (W := W) HI.out (n := n) (by omega)
            refine make_upon rfl rfl rfl hrun (hK _ _ ?_)
            simp only [Act.put, List.setIfInBounds_toArray, List.set_cons_succ, List.set_cons_zero]
            have H2 := (H.addQs hb (P := [rwI v' n (zeros n)]) (Mem.one (r := rwI v' n (zeros n)) ho1) (List.pairwise_singleton _ _)).permQ (((List.perm_append_comm_assoc _ _ _).trans (List.Perm.append_left _ (((List.perm_append_comm_assoc _ _ _).trans (List.Perm.append_left _ (List.Perm.refl _)))))))
            refine ⟨x96, x98, v', x101, t18, p5, rfl, ?_, (fun h => absurd (show done 10 = true by simpa using h) (by rw [n10]; decide)), (fun h => by simpa using e11 (by simpa using h)), (fun h => by simpa using e12 (by simpa using h))⟩
            show Mem w w.heap.size ([rwI (.slice (some ⟨g1, 0, none⟩) n k1) n os, rwI (.slice (some ⟨g2, 0, none⟩) n k2) n es, rwI (.slice (some ⟨g3, 0, none⟩) n k3) n ss]) (onL (done 5) [rwI x96 n (zeros n)] ++ (onL (done 7) [rwI x98 n (zeros n)] ++ (onL (true) [rwI v' n (zeros n)] ++ ([rwI (.slice (some ⟨a11, 0, none⟩) n b11) n os, rwI (.slice (some ⟨a12, 0, none⟩) n b12) n es1, rwI (.slice (some ⟨a13, 0, none⟩) n b13) n ss, rwI (.slice (some ⟨a21, 0, none⟩) n b21) n os1, rwI (.slice (some ⟨a22, 0, none⟩) n b22) n es, rwI (.slice (some ⟨a23, 0, none⟩) n b23) n ss, rwI (.slice (some ⟨a31, 0, none⟩) n b31) n os, rwI (.slice (some ⟨a32, 0, none⟩) n b32) n es, rwI (.slice (some ⟨a33, 0, none⟩) n b33) n ss, rwI (.slice (some ⟨a41, 0, none⟩) n b41) n os, rwI (.slice (some ⟨a42, 0, none⟩) n b42) n es, rwI (.slice (some ⟨a43, 0, none⟩) n b43) n ss])))) (onX (done 11) p5 (cond (done 12) (Obj.cells #[.int .i64 hi, x96, x98, v'] 44 (0, 0)) (Obj.cells #[.int .i64 0, .slice none 0 0, .slice none 0 0, .slice none 0 0] 44 (0, 0))) ++ ([(p1, Obj.cells #[.int .i64 wd, .slice (some ⟨a11, 0, none⟩) n b11, .slice (some ⟨a12, 0, none⟩) n b12, .slice (some ⟨a13, 0, none⟩) n b13] 44 (0, 0)), (p2, Obj.cells #[.int .i64 wd, .slice (some ⟨a21, 0, none⟩) n b21, .slice (some ⟨a22, 0, none⟩) n b22, .slice (some ⟨a23, 0, none⟩) n b23] 44 (0, 0)), (p3, Obj.cells #[.int .i64 wd, .slice (some ⟨a31, 0, none⟩) n b31, .slice (some ⟨a32, 0, none⟩) n b32, .slice (some ⟨a33, 0, none⟩) n b33] 44 (0, 0)), (p4, Obj.cells #[.int .i64 wd, .slice (some ⟨a41, 0, none⟩) n b41, .slice (some ⟨a42, 0, none⟩) n b42, .slice (some ⟨a43, 0, none⟩) n b43] 44 (0, 0)), (q, Obj.cells #[.int .i64 wd, .slice (some ⟨g1, 0, none⟩) n k1, .slice (some ⟨g2, 0, none⟩) n k2, .slice (some ⟨g3, 0, none⟩) n k3] 44 (0, 0))])) W'
            rw [n12]
            exact H2
          · cases ho
            have h5 := hdep 5 (by kernel_rfl) (by simp)
            have h7 := hdep 7 (by kernel_rfl) (by simp)
            have h9 := hdep 9 (by kernel_rfl) (by simp)
            clear hdep
            obtain ⟨m1, o1, rfl⟩ : ∃ g cap, x96 = .slice (some ⟨g, 0, none⟩) n cap := form_pos (r := rwI x96 n (zeros n)) (H.q _ (by rw [onL_yes h5]; simp)) (show 0 < n by omega)
            obtain ⟨m2, o2, rfl⟩ : ∃ g cap, x98 = .slice (some ⟨g, 0, none⟩) n cap := form_pos (r := rwI x98 n (zeros n)) (H.q _ (by rw [onL_yes h7]; simp)) (show 0 < n by omega)
            obtain ⟨m3, o3, rfl⟩ : ∃ g cap, x100 = .slice (some ⟨g, 0, none⟩) n cap := form_pos (r := rwI x100 n (zeros n)) (H.q _ (by rw [onL_yes h9]; simp)) (show 0 < n by omega)
            go_simp
            refine hK _ _ ?_
            exact ⟨_, _, _, _, t18, p5, rfl, H, (fun _ => ⟨rfl, by simpa using h5, by simpa using h7, by simpa using h9⟩), (fun h => by simpa using e11 (by simpa using h)), (fun h => ⟨rfl, by simpa using (e12 (by simpa using h)).2⟩)⟩
          · cases ho
            clear hdep
            have n12 : done 12 = false := by
              cases h : done 12 with
              | false => rfl
              | true => exact absurd ((e12 h).2) (by rw [hd]; decide)
            rw [onX_no hd] at H
            go_simp
            have H2 := Mem.permX (X := [(W.heap.size, Obj.cells #[.int .i64 0, .slice none 0 0, .slice none 0 0, .slice none 0 0] 44 (0, 0))] ++ _) (H.lay (Obj.cells #[.int .i64 0, .slice none 0 0, .slice none 0 0, .slice none 0 0] 44 (0, 0))) (List.Perm.refl _)
            refine hK _ _ ?_
            refine ⟨x96, x98, x100, x101, _, W.heap.size, rfl, ?_, (fun h => by simpa using e10 (by simpa using h)), (fun _ => rfl), (fun h => absurd (show done 12 = true by simpa using h) (by rw [n12]; decide))⟩
            show Mem w w.heap.size ([rwI (.slice (some ⟨g1, 0, none⟩) n k1) n os, rwI (.slice (some ⟨g2, 0, none⟩) n k2) n es, rwI (.slice (some ⟨g3, 0, none⟩) n k3) n ss]) (onL (done 5) [rwI x96 n (zeros n)] ++ (onL (done 7) [rwI x98 n (zeros n)] ++ (onL (done 9) [rwI x100 n (zeros n)] ++ ([rwI (.slice (some ⟨a11, 0, none⟩) n b11) n os, rwI (.slice (some ⟨a12, 0, none⟩) n b12) n es1, rwI (.slice (some ⟨a13, 0, none⟩) n b13) n ss, rwI (.slice (some ⟨a21, 0, none⟩) n b21) n os1, rwI (.slice (some ⟨a22, 0, none⟩) n b22) n es, rwI (.slice (some ⟨a23, 0, none⟩) n b23) n ss, rwI (.slice (some ⟨a31, 0, none⟩) n b31) n os, rwI (.slice (some ⟨a32, 0, none⟩) n b32) n es, rwI (.slice (some ⟨a33, 0, none⟩) n b33) n ss, rwI (.slice (some ⟨a41, 0, none⟩) n b41) n os, rwI (.slice (some ⟨a42, 0, none⟩) n b42) n es, rwI (.slice (some ⟨a43, 0, none⟩) n b43) n ss])))) (onX (true) W.heap.size (cond (done 12) (Obj.cells #[.int .i64 hi, x96, x98, x100] 44 (0, 0)) (Obj.cells #[.int .i64 0, .slice none 0 0, .slice none 0 0, .slice none 0 0] 44 (0, 0))) ++ ([(p1, Obj.cells #[.int .i64 wd, .slice (some ⟨a11, 0, none⟩) n b11, .slice (some ⟨a12, 0, none⟩) n b12, .slice (some ⟨a13, 0, none⟩) n b13] 44 (0, 0)), (p2, Obj.cells #[.int .i64 wd, .slice (some ⟨a21, 0, none⟩) n b21, .slice (some ⟨a22, 0, none⟩) n b22, .slice (some ⟨a23, 0, none⟩) n b23] 44 (0, 0)), (p3, Obj.cells #[.int .i64 wd, .slice (some ⟨a31, 0, none⟩) n b31, .slice (some ⟨a32, 0, none⟩) n b32, .slice (some ⟨a33, 0, none⟩) n b33] 44 (0, 0)), (p4, Obj.cells #[.int .i64 wd, .slice (some ⟨a41, 0, none⟩) n b41, .slice (some ⟨a42, 0, none⟩) n b42, .slice (some ⟨a43, 0, none⟩) n b43] 44 (0, 0)), (q, Obj.cells #[.int .i64 wd, .slice (some ⟨g1, 0, none⟩) n k1, .slice (some ⟨g2, 0, none⟩) n k2, .slice (some ⟨g3, 0, none⟩) n k3] 44 (0, 0))])) (W.alloc (Obj.cells #[.int .i64 0, .slice none 0 0, .slice none 0 0, .slice none 0 0] 44 (0, 0)))
            rw [n12]
            exact H2
          · cases ho
            have h10 := hdep 10 (by kernel_rfl) (by simp)
            have h11 := hdep 11 (by kernel_rfl) (by simp)
            clear hdep
            obtain ⟨rfl, h5, h7, h9⟩ := e10 h10
            obtain rfl := e11 h11
            obtain ⟨m1, o1, rfl⟩ : ∃ g cap, x96 = .slice (some ⟨g, 0, none⟩) n cap := form_pos (r := rwI x96 n (zeros n)) (H.q _ (by rw [onL_yes h5]; simp)) (show 0 < n by omega)
            obtain ⟨m2, o2, rfl⟩ : ∃ g cap, x98 = .slice (some ⟨g, 0, none⟩) n cap := form_pos (r := rwI x98 n (zeros n)) (H.q _ (by rw [onL_yes h7]; simp)) (show 0 < n by omega)
            obtain ⟨m3, o3, rfl⟩ : ∃ g cap, x100 = .slice (some ⟨g, 0, none⟩) n cap := form_pos (r := rwI x100 n (zeros n)) (H.q _ (by rw [onL_yes h9]; simp)) (show 0 < n by omega)
            rw [onX_yes h11, hd] at H
            obtain ⟨z0, z1, z2, z3⟩ := H.box4 (q := p5) (a := .int .i64 0) (b := .slice none 0 0) (e := .slice none 0 0) (f := .slice none 0 0) (t := 44) (List.mem_cons_self)
            obtain ⟨y0, y1, y2, y3⟩ := H.frz4 (q := p5) (a := .int .i64 0) (b := .slice none 0 0) (e := .slice none 0 0) (f := .slice none 0 0) (t := 44) (List.mem_cons_self)
            have H2 := Mem.put4 (X1 := []) H (.int .i64 hi) (.slice (some ⟨m1, 0, none⟩) n o1) (.slice (some ⟨m2, 0, none⟩) n o2) (.slice (some ⟨m3, 0, none⟩) n o3)
            go_simp
            clear z0 z1 z2 z3 y0 y1 y2 y3
            refine hK _ _ ?_
            refine ⟨.slice (some ⟨m1, 0, none⟩) n o1, .slice (some ⟨m2, 0, none⟩) n o2, .slice (some ⟨m3, 0, none⟩) n o3, _, _, p5, rfl, ?_, (fun _ => ⟨rfl, by simpa using h5, by simpa using h7, by simpa using h9⟩), (fun _ => rfl), (fun _ => ⟨by simpa using h10, by simpa using h11⟩)⟩
            show Mem w w.heap.size ([rwI (.slice (some ⟨g1, 0, none⟩) n k1) n os, rwI (.slice (some ⟨g2, 0, none⟩) n k2) n es, rwI (.slice (some ⟨g3, 0, none⟩) n k3) n ss]) (onL (done 5) [rwI (.slice (some ⟨m1, 0, none⟩) n o1) n (zeros n)] ++ (onL (done 7) [rwI (.slice (some ⟨m2, 0, none⟩) n o2) n (zeros n)] ++ (onL (done 9) [rwI (.slice (some ⟨m3, 0, none⟩) n o3) n (zeros n)] ++ ([rwI (.slice (some ⟨a11, 0, none⟩) n b11) n os, rwI (.slice (some ⟨a12, 0, none⟩) n b12) n es1, rwI (.slice (some ⟨a13, 0, none⟩) n b13) n ss, rwI (.slice (some ⟨a21, 0, none⟩) n b21) n os1, rwI (.slice (some ⟨a22, 0, none⟩) n b22) n es, rwI (.slice (some ⟨a23, 0, none⟩) n b23) n ss, rwI (.slice (some ⟨a31, 0, none⟩) n b31) n os, rwI (.slice (some ⟨a32, 0, none⟩) n b32) n es, rwI (.slice (some ⟨a33, 0, none⟩) n b33) n ss, rwI (.slice (some ⟨a41, 0, none⟩) n b41) n os, rwI (.slice (some ⟨a42, 0, none⟩) n b42) n es, rwI (.slice (some ⟨a43, 0, none⟩) n b43) n ss])))) (onX (done 11) p5 (cond (true) (Obj.cells #[.int .i64 hi, .slice (some ⟨m1, 0, none⟩) n o1, .slice (some ⟨m2, 0, none⟩) n o2, .slice (some ⟨m3, 0, none⟩) n o3] 44 (0, 0)) (Obj.cells #[.int .i64 0, .slice none 0 0, .slice none 0 0, .slice none 0 0] 44 (0, 0))) ++ ([(p1, Obj.cells #[.int .i64 wd, .slice (some ⟨a11, 0, none⟩) n b11, .slice (some ⟨a12, 0, none⟩) n b12, .slice (some ⟨a13, 0, none⟩) n b13] 44 (0, 0)), (p2, Obj.cells #[.int .i64 wd, .slice (some ⟨a21, 0, none⟩) n b21, .slice (some ⟨a22, 0, none⟩) n b22, .slice (some ⟨a23, 0, none⟩) n b23] 44 (0, 0)), (p3, Obj.cells #[.int .i64 wd, .slice (some ⟨a31, 0, none⟩) n b31, .slice (some ⟨a32, 0, none⟩) n b32, .slice (some ⟨a33, 0, none⟩) n b33] 44 (0, 0)), (p4, Obj.cells #[.int .i64 wd, .slice (some ⟨a41, 0, none⟩) n b41, .slice (some ⟨a42, 0, none⟩) n b42, .slice (some ⟨a43, 0, none⟩) n b43] 44 (0, 0)), (q, Obj.cells #[.int .i64 wd, .slice (some ⟨g1, 0, none⟩) n k1, .slice (some ⟨g2, 0, none⟩) n k2, .slice (some ⟨g3, 0, none⟩) n k3] 44 (0, 0))])) _
            rw [onX_yes h11]
            exact H2
        case fin =>
          rintro done a W hall ⟨x96, x98, x100, x101, t18, p5, rfl, H, e10, e11, e12⟩
          obtain ⟨rfl, -⟩ := e10 (hall 10 (by simp))
          obtain rfl := e11 (hall 11 (by simp))
          rw [onL_yes (hall 5 (by simp)), onL_yes (hall 7 (by simp)), onL_yes (hall 9 (by simp)), onX_yes (hall 11 (by simp)), hall 12 (by simp)] at H
          clear hall e12 HM9
          obtain ⟨m1, o1, rfl⟩ : ∃ g cap, x96 = .slice (some ⟨g, 0, none⟩) n cap := form_pos (r := rwI x96 n (zeros n)) (H.q _ (by simp)) (show 0 < n by omega)
          obtain ⟨m2, o2, rfl⟩ : ∃ g cap, x98 = .slice (some ⟨g, 0, none⟩) n cap := form_pos (r := rwI x98 n (zeros n)) (H.q _ (by simp)) (show 0 < n by omega)
          obtain ⟨m3, o3, rfl⟩ : ∃ g cap, x100 = .slice (some ⟨g, 0, none⟩) n cap := form_pos (r := rwI x100 n (zeros n)) (H.q _ (by simp)) (show 0 < n by omega)
          have HM10 : Hid (Mem w w.heap.size ([rwI (.slice (some ⟨g1, 0, none⟩) n k1) n os, rwI (.slice (some ⟨g2, 0, none⟩) n k2) n es, rwI (.slice (some ⟨g3, 0, none⟩) n k3) n ss]) [rwI (.slice (some ⟨m1, 0, none⟩) n o1) n (zeros n), rwI (.slice (some ⟨m2, 0, none⟩) n o2) n (zeros n), rwI (.slice (some ⟨m3, 0, none⟩) n o3) n (zeros n), rwI (.slice (some ⟨a11, 0, none⟩) n b11) n os, rwI (.slice (some ⟨a12, 0, none⟩) n b12) n es1, rwI (.slice (some ⟨a13, 0, none⟩) n b13) n ss, rwI (.slice (some ⟨a21, 0, none⟩) n b21) n os1, rwI (.slice (some ⟨a22, 0, none⟩) n b22) n es, rwI (.slice (some ⟨a23, 0, none⟩) n b23) n ss, rwI (.slice (some ⟨a31, 0, none⟩) n b31) n os, rwI (.slice (some ⟨a32, 0, none⟩) n b32) n es, rwI (.slice (some ⟨a33, 0, none⟩) n b33) n ss, rwI (.slice (some ⟨a41, 0, none⟩) n b41) n os, rwI (.slice (some ⟨a42, 0, none⟩) n b42) n es, rwI (.slice (some ⟨a43, 0, none⟩) n b43) n ss] [(p5, Obj.cells #[.int .i64 hi, .slice (some ⟨m1, 0, none⟩) n o1, .slice (some ⟨m2, 0, none⟩) n o2, .slice (some ⟨m3, 0, none⟩) n o3] 44 (0, 0)), (p1, Obj.cells #[.int .i64 wd, .slice (some ⟨a11, 0, none⟩) n b11, .slice (some ⟨a12, 0, none⟩) n b12, .slice (some ⟨a13, 0, none⟩) n b13] 44 (0, 0)), (p2, Obj.cells #[.int .i64 wd, .slice (some ⟨a21, 0, none⟩) n b21, .slice (some ⟨a22, 0, none⟩) n b22, .slice (some ⟨a23, 0, none⟩) n b23] 44 (0, 0)), (p3, Obj.cells #[.int .i64 wd, .slice (some ⟨a31, 0, none⟩) n b31, .slice (some ⟨a32, 0, none⟩) n b32, .slice (some ⟨a33, 0, none⟩) n b33] 44 (0, 0)), (p4, Obj.cells #[.int .i64 wd, .slice (some ⟨a41, 0, none⟩) n b41, .slice (some ⟨a42, 0, none⟩) n b42, .slice (some ⟨a43, 0, none⟩) n b43] 44 (0, 0)), (q, Obj.cells #[.int .i64 wd, .slice (some ⟨g1, 0, none⟩) n k1, .slice (some ⟨g2, 0, none⟩) n k2, .slice (some ⟨g3, 0, none⟩) n k3] 44 (0, 0))] W) := Lib.hid H
          clear H
          obtain ⟨w9, rfl⟩ : ∃ w9, w9 = W := ⟨_, rfl⟩
          obtain ⟨c0, c1, c2, c3⟩ := HM10.out.box4 (q := q) (t := 44) (.tail _ (.tail _ (.tail _ (.tail _ (.tail _ (.head _))))))
          clear e5 e6
          go_wp2_with fail
          go_loopw [105] (fun iv W => ∃ t : Nat, t ≤ n ∧ iv = .int .i64 t ∧ ∃ te ts oo uo ue us : List Int, Hid (HouL wd hi t os es ss te ts oo uo ue us) ∧ Hid (Mem w w.heap.size ([rwI (.slice (some ⟨g1, 0, none⟩) n k1) n os, rwI (.slice (some ⟨g2, 0, none⟩) n k2) n es, rwI (.slice (some ⟨g3, 0, none⟩) n k3) n ss]) [rwI (.slice (some ⟨m1, 0, none⟩) n o1) n uo, rwI (.slice (some ⟨m2, 0, none⟩) n o2) n ue, rwI (.slice (some ⟨m3, 0, none⟩) n o3) n us, rwI (.slice (some ⟨a11, 0, none⟩) n b11) n os, rwI (.slice (some ⟨a12, 0, none⟩) n b12) n es1, rwI (.slice (some ⟨a13, 0, none⟩) n b13) n ss, rwI (.slice (some ⟨a21, 0, none⟩) n b21) n os1, rwI (.slice (some ⟨a22, 0, none⟩) n b22) n es, rwI (.slice (some ⟨a23, 0, none⟩) n b23) n ss, rwI (.slice (some ⟨a31, 0, none⟩) n b31) n os, rwI (.slice (some ⟨a32, 0, none⟩) n b32) n te, rwI (.slice (some ⟨a33, 0, none⟩) n b33) n ts, rwI (.slice (some ⟨a41, 0, none⟩) n b41) n oo, rwI (.slice (some ⟨a42, 0, none⟩) n b42) n es, rwI (.slice (some ⟨a43, 0, none⟩) n b43) n ss] [(p5, Obj.cells #[.int .i64 hi, .slice (some ⟨m1, 0, none⟩) n o1, .slice (some ⟨m2, 0, none⟩) n o2, .slice (some ⟨m3, 0, none⟩) n o3] 44 (0, 0)), (p1, Obj.cells #[.int .i64 wd, .slice (some ⟨a11, 0, none⟩) n b11, .slice (some ⟨a12, 0, none⟩) n b12, .slice (some ⟨a13, 0, none⟩) n b13] 44 (0, 0)), (p2, Obj.cells #[.int .i64 wd, .slice (some ⟨a21, 0, none⟩) n b21, .slice (some ⟨a22, 0, none⟩) n b22, .slice (some ⟨a23, 0, none⟩) n b23] 44 (0, 0)), (p3, Obj.cells #[.int .i64 wd, .slice (some ⟨a31, 0, none⟩) n b31, .slice (some ⟨a32, 0, none⟩) n b32, .slice (some ⟨a33, 0, none⟩) n b33] 44 (0, 0)), (p4, Obj.cells #[.int .i64 wd, .slice (some ⟨a41, 0, none⟩) n b41, .slice (some ⟨a42, 0, none⟩) n b42, .slice (some ⟨a43, 0, none⟩) n b43] 44 (0, 0)), (q, Obj.cells #[.int .i64 wd, .slice (some ⟨g1, 0, none⟩) n k1, .slice (some ⟨g2, 0, none⟩) n k2, .slice (some ⟨g3, 0, none⟩) n k3] 44 (0, 0))] W)) (fun iv _ => n - (intOf iv).toNat)
          case atStart => exact ⟨0, Nat.zero_le _, rfl, es, ss, os, zeros n, zeros n, zeros n, Lib.hid (by have h := HouL.start HL.out.1; rw [← HN.out] at h; exact h), HM10⟩
          case round =>
            clear HM10 c0 c1 c2 c3
            obtain ⟨t, ht, rfl, te, ts, oo, uo, ue, us, HH, HM⟩ := hrel
            by_cases hlt : t < n
            · have ht64 : (t : Int) < (n : Int) := by omega
              have HLN : Hid (t < wd * hi) := Lib.hid (by rw [← HN.out]; exact hlt)
              have hbd : (-1 ≤ os.getD t 0 ∧ os.getD t 0 ≤ 1) ∧ (0 ≤ es.getD t 0 ∧ es.getD t 0 ≤ 11) ∧ (0 ≤ ss.getD t 0 ∧ ss.getD t 0 ≤ 11) := ⟨HL.out.1.o t HLN.out, ⟨(HL.out.1.e t HLN.out).1, (HL.out.2.2.2.2.1 t HLN.out).1⟩, ⟨(HL.out.1.s t HLN.out).1, (HL.out.2.2.2.2.1 t HLN.out).2⟩⟩
              obtain ⟨oi, hoi⟩ : ∃ x, x = os.getD t 0 := ⟨_, rfl⟩
              obtain ⟨ei, hei⟩ : ∃ x, x = es.getD t 0 := ⟨_, rfl⟩
              obtain ⟨si, hsi⟩ : ∃ x, x = ss.getD t 0 := ⟨_, rfl⟩
              rw [← hoi, ← hei, ← hsi] at hbd
              have HOI := Lib.hid hoi
              have HEI := Lib.hid hei
              have HSI := Lib.hid hsi
              clear hoi hei hsi
              have HM1 := Lib.hid HM.out.drew
              have hC : (fun W => W.cell? ⟨p3, 2, none⟩ = some (.slice (some ⟨a32, 0, none⟩) n b32) ∧ W.cell? ⟨p3, 3, none⟩ = some (.slice (some ⟨a33, 0, none⟩) n b33) ∧ W.cell? ⟨q, 2, none⟩ = some (.slice (some ⟨g2, 0, none⟩) n k2) ∧ W.cell? ⟨q, 3, none⟩ = some (.slice (some ⟨g3, 0, none⟩) n k3) ∧ W.cell? ⟨g2, t, none⟩ = some (.int .i64 ei) ∧ W.cell? ⟨g3, t, none⟩ = some (.int .i64 si)) wr.drew := ⟨(HM1.out.box4 (q := p3) (t := 44) (.tail _ (.tail _ (.tail _ (.head _))))).2.2.1, (HM1.out.box4 (q := p3) (t := 44) (.tail _ (.tail _ (.tail _ (.head _))))).2.2.2, (HM1.out.box4 (q := q) (t := 44) (.tail _ (.tail _ (.tail _ (.tail _ (.tail _ (.head _))))))).2.2.1, (HM1.out.box4 (q := q) (t := 44) (.tail _ (.tail _ (.tail _ (.tail _ (.tail _ (.head _))))))).2.2.2, (by have h := HM1.out.cellI (g := g2) (n := n) (cap := k2) (l := es) (j := t) (.inl (.tail _ (.head _))) (by rw [HLE.out.1.2.1]; exact hlt); rw [← HEI.out] at h; exact h), (by have h := HM1.out.cellI (g := g3) (n := n) (cap := k3) (l := ss) (j := t) (.inl (.tail _ (.tail _ (.head _)))) (by rw [HLE.out.1.2.2]; exact hlt); rw [← HSI.out] at h; exact h)⟩
              have d1 : wr.cell? ⟨g1, t, none⟩ = some (.int .i64 oi) := (by have h := HM.out.cellI (g := g1) (n := n) (cap := k1) (l := os) (j := t) (.inl (.head _)) (by rw [HLE.out.1.1]; exact hlt); rw [← HOI.out] at h; exact h)
              have m1e : IntKind.i64.wrap (2 * ei) = 2 * ei := IntWalk.i64_in _ (by omega)
              have m2e : IntKind.i64.wrap (2 * si) = 2 * si := IntWalk.i64_in _ (by omega)
              have HBD := Lib.hid hbd
              clear hbd HM
              go_upto_region 16 with (fail)
              refine Lim.regC' (fun W => W.cell? ⟨p3, 2, none⟩ = some (.slice (some ⟨a32, 0, none⟩) n b32) ∧ W.cell? ⟨p3, 3, none⟩ = some (.slice (some ⟨a33, 0, none⟩) n b33) ∧ W.cell? ⟨q, 2, none⟩ = some (.slice (some ⟨g2, 0, none⟩) n k2) ∧ W.cell? ⟨q, 3, none⟩ = some (.slice (some ⟨g3, 0, none⟩) n k3) ∧ W.cell? ⟨g2, t, none⟩ = some (.int .i64 ei) ∧ W.cell? ⟨g3, t, none⟩ = some (.int .i64 si)) [] #[false, false, false, false, false, false, false, false, false, false, false, false, false, false, false, false, false, false, false, false, false, false] (by kernel_rfl) rfl ?_
              generalize wr.drew = W1 at HM1 hC ⊢
              refine Lim.stepR 0 (fun _ => trivial) rfl (by kernel_rfl) (fun _ _ _ _ h => h) hC rfl ?_; apply Exists.intro; refine ⟨?_, ?_⟩
              · rintro w ⟨r1, r2, r3, r4, r5, r6⟩; go_simp; try with_reducible rfl
              simp only [Act.put, List.setIfInBounds_toArray, List.set_cons_succ, List.set_cons_zero]
              refine Lim.stepR 1 (fun _ => trivial) rfl (by kernel_rfl) (fun _ _ _ _ h => h) hC rfl ?_; apply Exists.intro; refine ⟨?_, ?_⟩
              · rintro w ⟨r1, r2, r3, r4, r5, r6⟩; go_simp; try with_reducible rfl
              simp only [Act.put, List.setIfInBounds_toArray, List.set_cons_succ, List.set_cons_zero]
              refine Lim.stepR 2 (fun _ => trivial) rfl (by kernel_rfl) (fun _ _ _ _ h => h) hC rfl ?_; apply Exists.intro; refine ⟨?_, ?_⟩
              · rintro w ⟨r1, r2, r3, r4, r5, r6⟩; go_simp; try with_reducible rfl
              simp only [Act.put, List.setIfInBounds_toArray, List.set_cons_succ, List.set_cons_zero]
              refine Lim.stepR 3 (fun _ => trivial) rfl (by kernel_rfl) (fun _ _ _ _ h => h) hC rfl ?_; apply Exists.intro; refine ⟨?_, ?_⟩
              · rintro w ⟨r1, r2, r3, r4, r5, r6⟩; go_simp; try with_reducible rfl
              simp only [Act.put, List.setIfInBounds_toArray, List.set_cons_succ, List.set_cons_zero]
              refine Lim.stepR 4 (fun _ => trivial) rfl (by kernel_rfl) (fun _ _ _ _ h => h) hC rfl ?_; apply Exists.intro; refine ⟨?_, ?_⟩
              · rintro w ⟨r1, r2, r3, r4, r5, r6⟩; go_simp; try with_reducible rfl
              simp only [Act.put, List.setIfInBounds_toArray, List.set_cons_succ, List.set_cons_zero]
              refine Lim.stepR 5 (fun _ => trivial) rfl (by kernel_rfl) (fun _ _ _ _ h => h) hC rfl ?_; apply Exists.intro; refine ⟨?_, ?_⟩
              · rintro w ⟨r1, r2, r3, r4, r5, r6⟩; go_simp; try with_reducible rfl
              simp only [Act.put, List.setIfInBounds_toArray, List.set_cons_succ, List.set_cons_zero]
              refine Lim.stepR 6 (fun _ => trivial) rfl (by kernel_rfl) (fun _ _ _ _ h => h) hC rfl ?_; apply Exists.intro; refine ⟨?_, ?_⟩
              · rintro w ⟨r1, r2, r3, r4, r5, r6⟩; go_simp; try with_reducible rfl
              simp only [Act.put, List.setIfInBounds_toArray, List.set_cons_succ, List.set_cons_zero]
              refine Lim.stepR 7 (fun _ => trivial) rfl (by kernel_rfl) (fun _ _ _ _ h => h) hC rfl ?_; apply Exists.intro; refine ⟨?_, ?_⟩
              · rintro w ⟨r1, r2, r3, r4, r5, r6⟩; go_simp; try with_reducible rfl
              simp only [Act.put, List.setIfInBounds_toArray, List.set_cons_succ, List.set_cons_zero]
              refine Lim.stepR 8 (fun _ => trivial) rfl (by kernel_rfl) (fun _ _ _ _ h => h) hC rfl ?_; apply Exists.intro; refine ⟨?_, ?_⟩
              · rintro w ⟨r1, r2, r3, r4, r5, r6⟩; go_simp; try with_reducible rfl
              simp only [Act.put, List.setIfInBounds_toArray, List.set_cons_succ, List.set_cons_zero]
              refine Lim.stepR 9 (fun _ => trivial) rfl (by kernel_rfl) (fun _ _ _ _ h => h) hC rfl ?_; apply Exists.intro; refine ⟨?_, ?_⟩
              · rintro w ⟨r1, r2, r3, r4, r5, r6⟩; go_simp; try with_reducible rfl
              simp only [Act.put, List.setIfInBounds_toArray, List.set_cons_succ, List.set_cons_zero]
              refine Lim.stepR 10 (fun _ => trivial) rfl (by kernel_rfl) (fun _ _ _ _ h => h) hC rfl ?_; apply Exists.intro; refine ⟨?_, ?_⟩
              · rintro w ⟨r1, r2, r3, r4, r5, r6⟩; go_simp; try with_reducible rfl
              simp only [Act.put, List.setIfInBounds_toArray, List.set_cons_succ, List.set_cons_zero]
              refine Lim.stepR 11 (fun _ => trivial) rfl (by kernel_rfl) (fun _ _ _ _ h => h) hC rfl ?_; apply Exists.intro; refine ⟨?_, ?_⟩
              · rintro w ⟨r1, r2, r3, r4, r5, r6⟩; go_simp; try with_reducible rfl
              simp only [Act.put, List.setIfInBounds_toArray, List.set_cons_succ, List.set_cons_zero]
              refine Lim.stepR 12 (fun _ => trivial) rfl (by kernel_rfl) (fun _ _ _ _ h => h) hC rfl ?_; apply Exists.intro; refine ⟨?_, ?_⟩
              · rintro w ⟨r1, r2, r3, r4, r5, r6⟩; go_simp; try with_reducible rfl
              simp only [Act.put, List.setIfInBounds_toArray, List.set_cons_succ, List.set_cons_zero]
              refine Lim.stepR 13 (fun _ => trivial) rfl (by kernel_rfl) (fun _ _ _ _ h => h) hC rfl ?_; apply Exists.intro; refine ⟨?_, ?_⟩
              · rintro w ⟨r1, r2, r3, r4, r5, r6⟩; go_simp; try with_reducible rfl
              simp only [Act.put, List.setIfInBounds_toArray, List.set_cons_succ, List.set_cons_zero]
              refine Lim.stepR 14 (fun _ => trivial) rfl (by kernel_rfl) (fun _ _ _ _ h => h) hC rfl ?_; apply Exists.intro; refine ⟨?_, ?_⟩
              · rintro w ⟨r1, r2, r3, r4, r5, r6⟩; go_simp; try with_reducible rfl
              simp only [Act.put, List.setIfInBounds_toArray, List.set_cons_succ, List.set_cons_zero]
              refine Lim.stepR 15 (fun _ => trivial) rfl (by kernel_rfl) (fun _ _ _ _ h => h) hC rfl ?_; apply Exists.intro; refine ⟨?_, ?_⟩
              · rintro w ⟨r1, r2, r3, r4, r5, r6⟩; go_simp; try with_reducible rfl
              simp only [Act.put, List.setIfInBounds_toArray, List.set_cons_succ, List.set_cons_zero]
              refine Lim.stepR 16 (fun _ => trivial) rfl (by kernel_rfl) (fun _ _ _ _ h => h) hC rfl ?_; apply Exists.intro; refine ⟨?_, ?_⟩
              · rintro w ⟨r1, r2, r3, r4, r5, r6⟩; go_simp; try with_reducible rfl
              simp only [Act.put, List.setIfInBounds_toArray, List.set_cons_succ, List.set_cons_zero]
              refine Lim.stepR 17 (fun _ => trivial) rfl (by kernel_rfl) (fun _ _ _ _ h => h) hC rfl ?_; apply Exists.intro; refine ⟨?_, ?_⟩
              · rintro w ⟨r1, r2, r3, r4, r5, r6⟩; go_simp; try with_reducible rfl
              simp only [Act.put, List.setIfInBounds_toArray, List.set_cons_succ, List.set_cons_zero]
              refine Lim.stepR 18 (fun _ => trivial) rfl (by kernel_rfl) (fun _ _ _ _ h => h) hC rfl ?_; apply Exists.intro; refine ⟨?_, ?_⟩
              · rintro w ⟨r1, r2, r3, r4, r5, r6⟩; go_simp; try with_reducible rfl
              simp only [Act.put, List.setIfInBounds_toArray, List.set_cons_succ, List.set_cons_zero]
              refine Lim.stepE 19 (fun _ => trivial) rfl (by kernel_rfl) rfl (fun K hK => ?_)   -- E store
              have q0 : W1.cell? ⟨a32, t, none⟩ = some (.int .i64 ((te).getD t 0)) := HM1.out.cellI (g := a32) (n := n) (cap := b32) (l := te) (j := t) (.inr (.tail _ (.tail _ (.tail _ (.tail _ (.tail _ (.tail _ (.tail _ (.tail _ (.tail _ (.tail _ (.head _)))))))))))) (by rw [HH.out.l1, ← HN.out]; exact hlt)
              have f0 : W1.frozen? ⟨a32, t, none⟩ = false := row_frz (r := rwI (.slice (some ⟨a32, 0, none⟩) n b32) n te) (HM1.out.q _ (.tail _ (.tail _ (.tail _ (.tail _ (.tail _ (.tail _ (.tail _ (.tail _ (.tail _ (.tail _ (.head _)))))))))))) rfl t
              have HA := Lib.hid (Mem.setI (Q1 := [rwI (.slice (some ⟨m1, 0, none⟩) n o1) n uo, rwI (.slice (some ⟨m2, 0, none⟩) n o2) n ue, rwI (.slice (some ⟨m3, 0, none⟩) n o3) n us, rwI (.slice (some ⟨a11, 0, none⟩) n b11) n os, rwI (.slice (some ⟨a12, 0, none⟩) n b12) n es1, rwI (.slice (some ⟨a13, 0, none⟩) n b13) n ss, rwI (.slice (some ⟨a21, 0, none⟩) n b21) n os1, rwI (.slice (some ⟨a22, 0, none⟩) n b22) n es, rwI (.slice (some ⟨a23, 0, none⟩) n b23) n ss, rwI (.slice (some ⟨a31, 0, none⟩) n b31) n os]) HM1.out t (2 * ei))
              have hC1 : (fun W => W.cell? ⟨p3, 2, none⟩ = some (.slice (some ⟨a32, 0, none⟩) n b32) ∧ W.cell? ⟨p3, 3, none⟩ = some (.slice (some ⟨a33, 0, none⟩) n b33) ∧ W.cell? ⟨q, 2, none⟩ = some (.slice (some ⟨g2, 0, none⟩) n k2) ∧ W.cell? ⟨q, 3, none⟩ = some (.slice (some ⟨g3, 0, none⟩) n k3) ∧ W.cell? ⟨g2, t, none⟩ = some (.int .i64 ei) ∧ W.cell? ⟨g3, t, none⟩ = some (.int .i64 si)) (W1.setCell ⟨a32, t, none⟩ (.int .i64 (2 * ei))) := ⟨(HA.out.box4 (q := p3) (t := 44) (.tail _ (.tail _ (.tail _ (.head _))))).2.2.1, (HA.out.box4 (q := p3) (t := 44) (.tail _ (.tail _ (.tail _ (.head _))))).2.2.2, (HA.out.box4 (q := q) (t := 44) (.tail _ (.tail _ (.tail _ (.tail _ (.tail _ (.head _))))))).2.2.1, (HA.out.box4 (q := q) (t := 44) (.tail _ (.tail _ (.tail _ (.tail _ (.tail _ (.head _))))))).2.2.2, (by have h := HA.out.cellI (g := g2) (n := n) (cap := k2) (l := es) (j := t) (.inl (.tail _ (.head _))) (by rw [HLE.out.1.2.1]; exact hlt); rw [← HEI.out] at h; exact h), (by have h := HA.out.cellI (g := g3) (n := n) (cap := k3) (l := ss) (j := t) (.inl (.tail _ (.tail _ (.head _)))) (by rw [HLE.out.1.2.2]; exact hlt); rw [← HSI.out] at h; exact h)⟩
              go_simp
              refine hK _ _ hC1 ?_
              clear q0 f0 hC
              generalize W1.setCell ⟨a32, t, none⟩ (.int .i64 (2 * ei)) = W2 at HA hC1 ⊢
              simp only [Act.put, List.setIfInBounds_toArray, List.set_cons_succ, List.set_cons_zero]
              refine Lim.stepR 20 (fun _ => trivial) rfl (by kernel_rfl) (fun _ _ _ _ h => h) hC1 rfl ?_; apply Exists.intro; refine ⟨?_, ?_⟩
              · rintro w ⟨r1, r2, r3, r4, r5, r6⟩; go_simp; try with_reducible rfl
              simp only [Act.put, List.setIfInBounds_toArray, List.set_cons_succ, List.set_cons_zero]
              refine Lim.stepE 21 (fun _ => trivial) rfl (by kernel_rfl) rfl (fun K hK => ?_)   -- E store
              have q0 : W2.cell? ⟨a33, t, none⟩ = some (.int .i64 ((ts).getD t 0)) := HA.out.cellI (g := a33) (n := n) (cap := b33) (l := ts) (j := t) (.inr (.tail _ (.tail _ (.tail _ (.tail _ (.tail _ (.tail _ (.tail _ (.tail _ (.tail _ (.tail _ (.tail _ (.head _))))))))))))) (by rw [HH.out.l2, ← HN.out]; exact hlt)
              have f0 : W2.frozen? ⟨a33, t, none⟩ = false := row_frz (r := rwI (.slice (some ⟨a33, 0, none⟩) n b33) n ts) (HA.out.q _ (.tail _ (.tail _ (.tail _ (.tail _ (.tail _ (.tail _ (.tail _ (.tail _ (.tail _ (.tail _ (.tail _ (.head _))))))))))))) rfl t
              have HB := Lib.hid (Mem.setI (Q1 := [rwI (.slice (some ⟨m1, 0, none⟩) n o1) n uo, rwI (.slice (some ⟨m2, 0, none⟩) n o2) n ue, rwI (.slice (some ⟨m3, 0, none⟩) n o3) n us, rwI (.slice (some ⟨a11, 0, none⟩) n b11) n os, rwI (.slice (some ⟨a12, 0, none⟩) n b12) n es1, rwI (.slice (some ⟨a13, 0, none⟩) n b13) n ss, rwI (.slice (some ⟨a21, 0, none⟩) n b21) n os1, rwI (.slice (some ⟨a22, 0, none⟩) n b22) n es, rwI (.slice (some ⟨a23, 0, none⟩) n b23) n ss, rwI (.slice (some ⟨a31, 0, none⟩) n b31) n os, rwI (.slice (some ⟨a32, 0, none⟩) n b32) n (te.set t (2 * ei))]) HA.out t (2 * si))
              have hC2 : (fun W => W.cell? ⟨p3, 2, none⟩ = some (.slice (some ⟨a32, 0, none⟩) n b32) ∧ W.cell? ⟨p3, 3, none⟩ = some (.slice (some ⟨a33, 0, none⟩) n b33) ∧ W.cell? ⟨q, 2, none⟩ = some (.slice (some ⟨g2, 0, none⟩) n k2) ∧ W.cell? ⟨q, 3, none⟩ = some (.slice (some ⟨g3, 0, none⟩) n k3) ∧ W.cell? ⟨g2, t, none⟩ = some (.int .i64 ei) ∧ W.cell? ⟨g3, t, none⟩ = some (.int .i64 si)) (W2.setCell ⟨a33, t, none⟩ (.int .i64 (2 * si))) := ⟨(HB.out.box4 (q := p3) (t := 44) (.tail _ (.tail _ (.tail _ (.head _))))).2.2.1, (HB.out.box4 (q := p3) (t := 44) (.tail _ (.tail _ (.tail _ (.head _))))).2.2.2, (HB.out.box4 (q := q) (t := 44) (.tail _ (.tail _ (.tail _ (.tail _ (.tail _ (.head _))))))).2.2.1, (HB.out.box4 (q := q) (t := 44) (.tail _ (.tail _ (.tail _ (.tail _ (.tail _ (.head _))))))).2.2.2, (by have h := HB.out.cellI (g := g2) (n := n) (cap := k2) (l := es) (j := t) (.inl (.tail _ (.head _))) (by rw [HLE.out.1.2.1]; exact hlt); rw [← HEI.out] at h; exact h), (by have h := HB.out.cellI (g := g3) (n := n) (cap := k3) (l := ss) (j := t) (.inl (.tail _ (.tail _ (.head _)))) (by rw [HLE.out.1.2.2]; exact hlt); rw [← HSI.out] at h; exact h)⟩
              go_simp
              refine hK _ _ hC2 ?_
              clear q0 f0 hC1
              generalize W2.setCell ⟨a33, t, none⟩ (.int .i64 (2 * si)) = W3 at HB hC2 ⊢
              simp only [Act.put, List.setIfInBounds_toArray, List.set_cons_succ, List.set_cons_zero]
              refine Lim.stepD (by kernel_rfl) ?_
              clear hC2 HA HM1 m1e m2e
              go_upto_if 131 with (fail)
              obtain ⟨bb, hbb⟩ : ∃ bb, bb = (oi != -1) := ⟨_, rfl⟩
              rw [← hbb]
              have HBB := Lib.hid hbb
              clear hbb
              go_cut [131] from 130 to 137 (fun s131 wc => ∃ (oo1 : List Int), Hid ((oi = -1 ∧ oo1 = oo) ∨ (oi ≠ -1 ∧ oo1 = oo.set t (1 - oi))) ∧ Hid (Mem w w.heap.size ([rwI (.slice (some ⟨g1, 0, none⟩) n k1) n os, rwI (.slice (some ⟨g2, 0, none⟩) n k2) n es, rwI (.slice (some ⟨g3, 0, none⟩) n k3) n ss]) [rwI (.slice (some ⟨m1, 0, none⟩) n o1) n uo, rwI (.slice (some ⟨m2, 0, none⟩) n o2) n ue, rwI (.slice (some ⟨m3, 0, none⟩) n o3) n us, rwI (.slice (some ⟨a11, 0, none⟩) n b11) n os, rwI (.slice (some ⟨a12, 0, none⟩) n b12) n es1, rwI (.slice (some ⟨a13, 0, none⟩) n b13) n ss, rwI (.slice (some ⟨a21, 0, none⟩) n b21) n os1, rwI (.slice (some ⟨a22, 0, none⟩) n b22) n es, rwI (.slice (some ⟨a23, 0, none⟩) n b23) n ss, rwI (.slice (some ⟨a31, 0, none⟩) n b31) n os, rwI (.slice (some ⟨a32, 0, none⟩) n b32) n (te.set t (2 * ei)), rwI (.slice (some ⟨a33, 0, none⟩) n b33) n (ts.set t (2 * si)), rwI (.slice (some ⟨a41, 0, none⟩) n b41) n oo1, rwI (.slice (some ⟨a42, 0, none⟩) n b42) n es, rwI (.slice (some ⟨a43, 0, none⟩) n b43) n ss] [(p5, Obj.cells #[.int .i64 hi, .slice (some ⟨m1, 0, none⟩) n o1, .slice (some ⟨m2, 0, none⟩) n o2, .slice (some ⟨m3, 0, none⟩) n o3] 44 (0, 0)), (p1, Obj.cells #[.int .i64 wd, .slice (some ⟨a11, 0, none⟩) n b11, .slice (some ⟨a12, 0, none⟩) n b12, .slice (some ⟨a13, 0, none⟩) n b13] 44 (0, 0)), (p2, Obj.cells #[.int .i64 wd, .slice (some ⟨a21, 0, none⟩) n b21, .slice (some ⟨a22, 0, none⟩) n b22, .slice (some ⟨a23, 0, none⟩) n b23] 44 (0, 0)), (p3, Obj.cells #[.int .i64 wd, .slice (some ⟨a31, 0, none⟩) n b31, .slice (some ⟨a32, 0, none⟩) n b32, .slice (some ⟨a33, 0, none⟩) n b33] 44 (0, 0)), (p4, Obj.cells #[.int .i64 wd, .slice (some ⟨a41, 0, none⟩) n b41, .slice (some ⟨a42, 0, none⟩) n b42, .slice (some ⟨a43, 0, none⟩) n b43] 44 (0, 0)), (q, Obj.cells #[.int .i64 wd, .slice (some ⟨g1, 0, none⟩) n k1, .slice (some ⟨g2, 0, none⟩) n k2, .slice (some ⟨g3, 0, none⟩) n k3] 44 (0, 0))] wc))
              case first =>
                cases bb with
                | false =>
                  go_wp2
                  go_meet
                  case rel => exact ⟨oo, Lib.hid (.inl ⟨by have h := HBB.out; simpa using h.symm, rfl⟩), HB⟩
                | true =>
                  obtain ⟨b0, b1, b2, b3⟩ := HB.out.box4 (q := p4) (t := 44) (.tail _ (.tail _ (.tail _ (.tail _ (.head _)))))
                  have q0 : W3.cell? ⟨a41, t, none⟩ = some (.int .i64 (oo.getD t 0)) := HB.out.cellI (g := a41) (n := n) (cap := b41) (l := oo) (j := t) (.inr (.tail _ (.tail _ (.tail _ (.tail _ (.tail _ (.tail _ (.tail _ (.tail _ (.tail _ (.tail _ (.tail _ (.tail _ (.head _)))))))))))))) (by rw [HH.out.l3, ← HN.out]; exact hlt)
                  have f0 : W3.frozen? ⟨a41, t, none⟩ = false := row_frz (r := rwI (.slice (some ⟨a41, 0, none⟩) n b41) n oo) (HB.out.q _ (.tail _ (.tail _ (.tail _ (.tail _ (.tail _ (.tail _ (.tail _ (.tail _ (.tail _ (.tail _ (.tail _ (.tail _ (.head _)))))))))))))) rfl t
                  have m1e : IntKind.i64.wrap (1 - oi) = 1 - oi := IntWalk.i64_in _ (by have := HBD.out; omega)
                  have HC := Lib.hid (Mem.setI (Q1 := [rwI (.slice (some ⟨m1, 0, none⟩) n o1) n uo, rwI (.slice (some ⟨m2, 0, none⟩) n o2) n ue, rwI (.slice (some ⟨m3, 0, none⟩) n o3) n us, rwI (.slice (some ⟨a11, 0, none⟩) n b11) n os, rwI (.slice (some ⟨a12, 0, none⟩) n b12) n es1, rwI (.slice (some ⟨a13, 0, none⟩) n b13) n ss, rwI (.slice (some ⟨a21, 0, none⟩) n b21) n os1, rwI (.slice (some ⟨a22, 0, none⟩) n b22) n es, rwI (.slice (some ⟨a23, 0, none⟩) n b23) n ss, rwI (.slice (some ⟨a31, 0, none⟩) n b31) n os, rwI (.slice (some ⟨a32, 0, none⟩) n b32) n (te.set t (2 * ei)), rwI (.slice (some ⟨a33, 0, none⟩) n b33) n (ts.set t (2 * si))]) HB.out t (1 - oi))
                  go_wp2_with fail
                  go_meet
                  case rel => exact ⟨oo.set t (1 - oi), Lib.hid (.inr ⟨by have h := HBB.out; simpa using h.symm, rfl⟩), HC⟩
              case rest =>
                obtain ⟨oo1, HO2, HC⟩ := hcut
                clear HB HBB d1
                have HD := Lib.hid HC.out.drew
                have hC19 : (fun W => W.cell? ⟨q, 0, none⟩ = some (.int .i64 wd) ∧ W.cell? ⟨p5, 0, none⟩ = some (.int .i64 hi)) wc.drew := ⟨(HD.out.box4 (q := q) (t := 44) (.tail _ (.tail _ (.tail _ (.tail _ (.tail _ (.head _))))))).1, (HD.out.box4 (q := p5) (t := 44) (.head _)).1⟩
                obtain ⟨ix, hix⟩ : ∃ x, x = t % wd := ⟨_, rfl⟩
                obtain ⟨iy, hiy⟩ : ∃ x, x = t / wd := ⟨_, rfl⟩
                obtain ⟨kk, hkk0⟩ : ∃ x, x = phi wd hi t := ⟨_, rfl⟩
                obtain ⟨mm, hmm⟩ : ∃ x, x = ix * hi := ⟨_, rfl⟩
                have hsum : mm + iy = kk := by rw [hmm, hix, hiy, hkk0]; rfl
                have hkk : kk < n := by rw [hkk0, HN.out]; exact (phi_lt (by omega) HLN.out).1
                have e5 : (t : Int).tmod (wd : Int) = (ix : Int) := by rw [hix]; exact (Int.ofNat_tmod t wd).symm
                have e6 : (t : Int).tdiv (wd : Int) = (iy : Int) := by rw [hiy]; exact (Int.ofNat_tdiv t wd).symm
                have e7 : (ix : Int) * (hi : Int) = (mm : Int) := by rw [hmm]; exact (Int.natCast_mul ix hi).symm
                have e8 : IntKind.i64.wrap ((ix : Int) * (hi : Int)) = (mm : Int) := by rw [e7]; exact IntWalk.i64_in _ (by omega)
                have e9 : IntKind.i64.wrap (iy : Int) = (iy : Int) := IntWalk.i64_in _ (by omega)
                have e10 : IntKind.i64.wrap ((mm : Int) + (iy : Int)) = (kk : Int) := by rw [IntWalk.i64_in _ (by omega)]; omega
                have hk64 : (kk : Int) < (n : Int) := by omega
                have HKK := Lib.hid hkk0
                clear hix hiy hkk0 hmm hsum e7 HC
                go_upto_region 19 with (fail)
                refine Lim.regC' (fun W => W.cell? ⟨q, 0, none⟩ = some (.int .i64 wd) ∧ W.cell? ⟨p5, 0, none⟩ = some (.int .i64 hi)) [] #[false, false, false, false, false, false, false, false, false, false, false, false, false] (by kernel_rfl) rfl ?_
                refine Lim.stepR 0 (fun _ => trivial) rfl (by kernel_rfl) (fun _ _ _ _ h => h) hC19 rfl ?_; apply Exists.intro; refine ⟨?_, ?_⟩
                · rintro w ⟨r1, r2⟩; go_simp; try with_reducible rfl
                simp only [Act.put, List.setIfInBounds_toArray, List.set_cons_succ, List.set_cons_zero]
                refine Lim.stepR 1 (fun _ => trivial) rfl (by kernel_rfl) (fun _ _ _ _ h => h) hC19 rfl ?_; apply Exists.intro; refine ⟨?_, ?_⟩
                · rintro w ⟨r1, r2⟩; go_simp; try with_reducible rfl
                simp only [Act.put, List.setIfInBounds_toArray, List.set_cons_succ, List.set_cons_zero]
                refine Lim.stepR 2 (fun _ => trivial) rfl (by kernel_rfl) (fun _ _ _ _ h => h) hC19 rfl ?_; apply Exists.intro; refine ⟨?_, ?_⟩
                · rintro w ⟨r1, r2⟩; go_simp; try with_reducible rfl
                simp only [Act.put, List.setIfInBounds_toArray, List.set_cons_succ, List.set_cons_zero]
                refine Lim.stepR 3 (fun _ => trivial) rfl (by kernel_rfl) (fun _ _ _ _ h => h) hC19 rfl ?_; apply Exists.intro; refine ⟨?_, ?_⟩
                · rintro w ⟨r1, r2⟩; go_simp; try with_reducible rfl
                simp only [Act.put, List.setIfInBounds_toArray, List.set_cons_succ, List.set_cons_zero]
                refine Lim.stepR 4 (fun _ => trivial) rfl (by kernel_rfl) (fun _ _ _ _ h => h) hC19 rfl ?_; apply Exists.intro; refine ⟨?_, ?_⟩
                · rintro w ⟨r1, r2⟩; go_simp; try with_reducible rfl
                simp only [Act.put, List.setIfInBounds_toArray, List.set_cons_succ, List.set_cons_zero]
                refine Lim.stepR 5 (fun _ => trivial) rfl (by kernel_rfl) (fun _ _ _ _ h => h) hC19 rfl ?_; apply Exists.intro; refine ⟨?_, ?_⟩
                · rintro w ⟨r1, r2⟩; go_simp; try with_reducible rfl
                simp only [Act.put, List.setIfInBounds_toArray, List.set_cons_succ, List.set_cons_zero]
                refine Lim.stepR 6 (fun _ => trivial) rfl (by kernel_rfl) (fun _ _ _ _ h => h) hC19 rfl ?_; apply Exists.intro; refine ⟨?_, ?_⟩
                · rintro w ⟨r1, r2⟩; go_simp; try with_reducible rfl
                simp only [Act.put, List.setIfInBounds_toArray, List.set_cons_succ, List.set_cons_zero]
                refine Lim.stepR 7 (fun _ => trivial) rfl (by kernel_rfl) (fun _ _ _ _ h => h) hC19 rfl ?_; apply Exists.intro; refine ⟨?_, ?_⟩
                · rintro w ⟨r1, r2⟩; go_simp; try with_reducible rfl
                simp only [Act.put, List.setIfInBounds_toArray, List.set_cons_succ, List.set_cons_zero]
                refine Lim.stepR 8 (fun _ => trivial) rfl (by kernel_rfl) (fun _ _ _ _ h => h) hC19 rfl ?_; apply Exists.intro; refine ⟨?_, ?_⟩
                · rintro w ⟨r1, r2⟩; go_simp; try with_reducible rfl
                simp only [Act.put, List.setIfInBounds_toArray, List.set_cons_succ, List.set_cons_zero]
                refine Lim.stepR 9 (fun _ => trivial) rfl (by kernel_rfl) (fun _ _ _ _ h => h) hC19 rfl ?_; apply Exists.intro; refine ⟨?_, ?_⟩
                · rintro w ⟨r1, r2⟩; go_simp; try with_reducible rfl
                simp only [Act.put, List.setIfInBounds_toArray, List.set_cons_succ, List.set_cons_zero]
                refine Lim.stepR 10 (fun _ => trivial) rfl (by kernel_rfl) (fun _ _ _ _ h => h) hC19 rfl ?_; apply Exists.intro; refine ⟨?_, ?_⟩
                · rintro w ⟨r1, r2⟩; go_simp; try with_reducible rfl
                simp only [Act.put, List.setIfInBounds_toArray, List.set_cons_succ, List.set_cons_zero]
                refine Lim.stepR 11 (fun _ => trivial) rfl (by kernel_rfl) (fun _ _ _ _ h => h) hC19 rfl ?_; apply Exists.intro; refine ⟨?_, ?_⟩
                · rintro w ⟨r1, r2⟩; go_simp; try with_reducible rfl
                simp only [Act.put, List.setIfInBounds_toArray, List.set_cons_succ, List.set_cons_zero]
                refine Lim.stepR 12 (fun _ => trivial) rfl (by kernel_rfl) (fun _ _ _ _ h => h) hC19 rfl ?_; apply Exists.intro; refine ⟨?_, ?_⟩
                · rintro w ⟨r1, r2⟩; go_simp; try with_reducible rfl
                simp only [Act.put, List.setIfInBounds_toArray, List.set_cons_succ, List.set_cons_zero]
                refine Lim.stepD (by kernel_rfl) ?_
                clear hC19 e5 e6 e8 e9 e10
                generalize wc.drew = W10 at HD ⊢
                have HD0 := Lib.hid HD.out.drew
                clear HD
                have HD := HD0
                clear HD0
                have hC20 : (fun W => W.cell? ⟨p5, 1, none⟩ = some (.slice (some ⟨m1, 0, none⟩) n o1) ∧ W.cell? ⟨p5, 2, none⟩ = some (.slice (some ⟨m2, 0, none⟩) n o2) ∧ W.cell? ⟨p5, 3, none⟩ = some (.slice (some ⟨m3, 0, none⟩) n o3) ∧ W.cell? ⟨q, 2, none⟩ = some (.slice (some ⟨g2, 0, none⟩) n k2) ∧ W.cell? ⟨q, 3, none⟩ = some (.slice (some ⟨g3, 0, none⟩) n k3) ∧ W.cell? ⟨g2, t, none⟩ = some (.int .i64 ei) ∧ W.cell? ⟨g3, t, none⟩ = some (.int .i64 si)) W10.drew := ⟨(HD.out.box4 (q := p5) (t := 44) (.head _)).2.1, (HD.out.box4 (q := p5) (t := 44) (.head _)).2.2.1, (HD.out.box4 (q := p5) (t := 44) (.head _)).2.2.2, (HD.out.box4 (q := q) (t := 44) (.tail _ (.tail _ (.tail _ (.tail _ (.tail _ (.head _))))))).2.2.1, (HD.out.box4 (q := q) (t := 44) (.tail _ (.tail _ (.tail _ (.tail _ (.tail _ (.head _))))))).2.2.2, (by have h := HD.out.cellI (g := g2) (n := n) (cap := k2) (l := es) (j := t) (.inl (.tail _ (.head _))) (by rw [HLE.out.1.2.1]; exact hlt); rw [← HEI.out] at h; exact h), (by have h := HD.out.cellI (g := g3) (n := n) (cap := k3) (l := ss) (j := t) (.inl (.tail _ (.tail _ (.head _)))) (by rw [HLE.out.1.2.2]; exact hlt); rw [← HSI.out] at h; exact h)⟩
                go_upto_region 20 with (fail)
                refine Lim.regC' (fun W => W.cell? ⟨p5, 1, none⟩ = some (.slice (some ⟨m1, 0, none⟩) n o1) ∧ W.cell? ⟨p5, 2, none⟩ = some (.slice (some ⟨m2, 0, none⟩) n o2) ∧ W.cell? ⟨p5, 3, none⟩ = some (.slice (some ⟨m3, 0, none⟩) n o3) ∧ W.cell? ⟨q, 2, none⟩ = some (.slice (some ⟨g2, 0, none⟩) n k2) ∧ W.cell? ⟨q, 3, none⟩ = some (.slice (some ⟨g3, 0, none⟩) n k3) ∧ W.cell? ⟨g2, t, none⟩ = some (.int .i64 ei) ∧ W.cell? ⟨g3, t, none⟩ = some (.int .i64 si)) [] #[false, false, false, false, false, false, false, false, false, false, false, false, false, false, false, false, false, false, false, false, false, false, false, false, false, false] (by kernel_rfl) rfl ?_
                generalize W10.drew = W4 at HD hC20 ⊢
                refine Lim.stepR 0 (fun _ => trivial) rfl (by kernel_rfl) (fun _ _ _ _ h => h) hC20 rfl ?_; apply Exists.intro; refine ⟨?_, ?_⟩
                · rintro w ⟨r1, r2, r3, r4, r5, r6, r7⟩; go_simp; try with_reducible rfl
                simp only [Act.put, List.setIfInBounds_toArray, List.set_cons_succ, List.set_cons_zero]
                refine Lim.stepR 1 (fun _ => trivial) rfl (by kernel_rfl) (fun _ _ _ _ h => h) hC20 rfl ?_; apply Exists.intro; refine ⟨?_, ?_⟩
                · rintro w ⟨r1, r2, r3, r4, r5, r6, r7⟩; go_simp; try with_reducible rfl
                simp only [Act.put, List.setIfInBounds_toArray, List.set_cons_succ, List.set_cons_zero]
                refine Lim.stepR 2 (fun _ => trivial) rfl (by kernel_rfl) (fun _ _ _ _ h => h) hC20 rfl ?_; apply Exists.intro; refine ⟨?_, ?_⟩
                · rintro w ⟨r1, r2, r3, r4, r5, r6, r7⟩; go_simp; try with_reducible rfl
                simp only [Act.put, List.setIfInBounds_toArray, List.set_cons_succ, List.set_cons_zero]
                refine Lim.stepR 3 (fun _ => trivial) rfl (by kernel_rfl) (fun _ _ _ _ h => h) hC20 rfl ?_; apply Exists.intro; refine ⟨?_, ?_⟩
                · rintro w ⟨r1, r2, r3, r4, r5, r6, r7⟩; go_simp; try with_reducible rfl
                simp only [Act.put, List.setIfInBounds_toArray, List.set_cons_succ, List.set_cons_zero]
                refine Lim.stepR 4 (fun _ => trivial) rfl (by kernel_rfl) (fun _ _ _ _ h => h) hC20 rfl ?_; apply Exists.intro; refine ⟨?_, ?_⟩
                · rintro w ⟨r1, r2, r3, r4, r5, r6, r7⟩; go_simp; try with_reducible rfl
                simp only [Act.put, List.setIfInBounds_toArray, List.set_cons_succ, List.set_cons_zero]
                refine Lim.stepR 5 (fun _ => trivial) rfl (by kernel_rfl) (fun _ _ _ _ h => h) hC20 rfl ?_; apply Exists.intro; refine ⟨?_, ?_⟩
                · rintro w ⟨r1, r2, r3, r4, r5, r6, r7⟩; go_simp; try with_reducible rfl
                simp only [Act.put, List.setIfInBounds_toArray, List.set_cons_succ, List.set_cons_zero]
                refine Lim.stepR 6 (fun _ => trivial) rfl (by kernel_rfl) (fun _ _ _ _ h => h) hC20 rfl ?_; apply Exists.intro; refine ⟨?_, ?_⟩
                · rintro w ⟨r1, r2, r3, r4, r5, r6, r7⟩; go_simp; try with_reducible rfl
                simp only [Act.put, List.setIfInBounds_toArray, List.set_cons_succ, List.set_cons_zero]
                refine Lim.stepR 7 (fun _ => trivial) rfl (by kernel_rfl) (fun _ _ _ _ h => h) hC20 rfl ?_; apply Exists.intro; refine ⟨?_, ?_⟩
                · rintro w ⟨r1, r2, r3, r4, r5, r6, r7⟩; go_simp; try with_reducible rfl
                simp only [Act.put, List.setIfInBounds_toArray, List.set_cons_succ, List.set_cons_zero]
                refine Lim.stepR 8 (fun _ => trivial) rfl (by kernel_rfl) (fun _ _ _ _ h => h) hC20 rfl ?_; apply Exists.intro; refine ⟨?_, ?_⟩
                · rintro w ⟨r1, r2, r3, r4, r5, r6, r7⟩; go_simp; try with_reducible rfl
                simp only [Act.put, List.setIfInBounds_toArray, List.set_cons_succ, List.set_cons_zero]
                refine Lim.stepR 9 (fun _ => trivial) rfl (by kernel_rfl) (fun _ _ _ _ h => h) hC20 rfl ?_; apply Exists.intro; refine ⟨?_, ?_⟩
                · rintro w ⟨r1, r2, r3, r4, r5, r6, r7⟩; go_simp; try with_reducible rfl
                simp only [Act.put, List.setIfInBounds_toArray, List.set_cons_succ, List.set_cons_zero]
                refine Lim.stepR 10 (fun _ => trivial) rfl (by kernel_rfl) (fun _ _ _ _ h => h) hC20 rfl ?_; apply Exists.intro; refine ⟨?_, ?_⟩
                · rintro w ⟨r1, r2, r3, r4, r5, r6, r7⟩; go_simp; try with_reducible rfl
                simp only [Act.put, List.setIfInBounds_toArray, List.set_cons_succ, List.set_cons_zero]
                refine Lim.stepR 11 (fun _ => trivial) rfl (by kernel_rfl) (fun _ _ _ _ h => h) hC20 rfl ?_; apply Exists.intro; refine ⟨?_, ?_⟩
                · rintro w ⟨r1, r2, r3, r4, r5, r6, r7⟩; go_simp; try with_reducible rfl
                simp only [Act.put, List.setIfInBounds_toArray, List.set_cons_succ, List.set_cons_zero]
                refine Lim.stepR 12 (fun _ => trivial) rfl (by kernel_rfl) (fun _ _ _ _ h => h) hC20 rfl ?_; apply Exists.intro; refine ⟨?_, ?_⟩
                · rintro w ⟨r1, r2, r3, r4, r5, r6, r7⟩; go_simp; try with_reducible rfl
                simp only [Act.put, List.setIfInBounds_toArray, List.set_cons_succ, List.set_cons_zero]
                refine Lim.stepR 13 (fun _ => trivial) rfl (by kernel_rfl) (fun _ _ _ _ h => h) hC20 rfl ?_; apply Exists.intro; refine ⟨?_, ?_⟩
                · rintro w ⟨r1, r2, r3, r4, r5, r6, r7⟩; go_simp; try with_reducible rfl
                simp only [Act.put, List.setIfInBounds_toArray, List.set_cons_succ, List.set_cons_zero]
                refine Lim.stepR 14 (fun _ => trivial) rfl (by kernel_rfl) (fun _ _ _ _ h => h) hC20 rfl ?_; apply Exists.intro; refine ⟨?_, ?_⟩
                · rintro w ⟨r1, r2, r3, r4, r5, r6, r7⟩; go_simp; try with_reducible rfl
                simp only [Act.put, List.setIfInBounds_toArray, List.set_cons_succ, List.set_cons_zero]
                refine Lim.stepR 15 (fun _ => trivial) rfl (by kernel_rfl) (fun _ _ _ _ h => h) hC20 rfl ?_; apply Exists.intro; refine ⟨?_, ?_⟩
                · rintro w ⟨r1, r2, r3, r4, r5, r6, r7⟩; go_simp; try with_reducible rfl
                simp only [Act.put, List.setIfInBounds_toArray, List.set_cons_succ, List.set_cons_zero]
                refine Lim.stepR 16 (fun _ => trivial) rfl (by kernel_rfl) (fun _ _ _ _ h => h) hC20 rfl ?_; apply Exists.intro; refine ⟨?_, ?_⟩
                · rintro w ⟨r1, r2, r3, r4, r5, r6, r7⟩; go_simp; try with_reducible rfl
                simp only [Act.put, List.setIfInBounds_toArray, List.set_cons_succ, List.set_cons_zero]
                refine Lim.stepR 17 (fun _ => trivial) rfl (by kernel_rfl) (fun _ _ _ _ h => h) hC20 rfl ?_; apply Exists.intro; refine ⟨?_, ?_⟩
                · rintro w ⟨r1, r2, r3, r4, r5, r6, r7⟩; go_simp; try with_reducible rfl
                simp only [Act.put, List.setIfInBounds_toArray, List.set_cons_succ, List.set_cons_zero]
                refine Lim.stepR 18 (fun _ => trivial) rfl (by kernel_rfl) (fun _ _ _ _ h => h) hC20 rfl ?_; apply Exists.intro; refine ⟨?_, ?_⟩
                · rintro w ⟨r1, r2, r3, r4, r5, r6, r7⟩; go_simp; try with_reducible rfl
                simp only [Act.put, List.setIfInBounds_toArray, List.set_cons_succ, List.set_cons_zero]
                refine Lim.stepR 19 (fun _ => trivial) rfl (by kernel_rfl) (fun _ _ _ _ h => h) hC20 rfl ?_; apply Exists.intro; refine ⟨?_, ?_⟩
                · rintro w ⟨r1, r2, r3, r4, r5, r6, r7⟩; go_simp; try with_reducible rfl
                simp only [Act.put, List.setIfInBounds_toArray, List.set_cons_succ, List.set_cons_zero]
                refine Lim.stepR 20 (fun _ => trivial) rfl (by kernel_rfl) (fun _ _ _ _ h => h) hC20 rfl ?_; apply Exists.intro; refine ⟨?_, ?_⟩
                · rintro w ⟨r1, r2, r3, r4, r5, r6, r7⟩; go_simp; try with_reducible rfl
                simp only [Act.put, List.setIfInBounds_toArray, List.set_cons_succ, List.set_cons_zero]
                refine Lim.stepE 21 (fun _ => trivial) rfl (by kernel_rfl) rfl (fun K hK => ?_)   -- E store
                have q0 : W4.cell? ⟨m1, kk, none⟩ = some (.int .i64 ((uo).getD kk 0)) := HD.out.cellI (g := m1) (n := n) (cap := o1) (l := uo) (j := kk) (.inr (.head _)) (by rw [HH.out.l4, ← HN.out]; exact hkk)
                have f0 : W4.frozen? ⟨m1, kk, none⟩ = false := row_frz (r := rwI (.slice (some ⟨m1, 0, none⟩) n o1) n uo) (HD.out.q _ (.head _)) rfl kk
                have HE := Lib.hid (Mem.setI (Q1 := []) HD.out kk (oi))
                have hC21 : (fun W => W.cell? ⟨p5, 1, none⟩ = some (.slice (some ⟨m1, 0, none⟩) n o1) ∧ W.cell? ⟨p5, 2, none⟩ = some (.slice (some ⟨m2, 0, none⟩) n o2) ∧ W.cell? ⟨p5, 3, none⟩ = some (.slice (some ⟨m3, 0, none⟩) n o3) ∧ W.cell? ⟨q, 2, none⟩ = some (.slice (some ⟨g2, 0, none⟩) n k2) ∧ W.cell? ⟨q, 3, none⟩ = some (.slice (some ⟨g3, 0, none⟩) n k3) ∧ W.cell? ⟨g2, t, none⟩ = some (.int .i64 ei) ∧ W.cell? ⟨g3, t, none⟩ = some (.int .i64 si)) (W4.setCell ⟨m1, kk, none⟩ (.int .i64 (oi))) := ⟨(HE.out.box4 (q := p5) (t := 44) (.head _)).2.1, (HE.out.box4 (q := p5) (t := 44) (.head _)).2.2.1, (HE.out.box4 (q := p5) (t := 44) (.head _)).2.2.2, (HE.out.box4 (q := q) (t := 44) (.tail _ (.tail _ (.tail _ (.tail _ (.tail _ (.head _))))))).2.2.1, (HE.out.box4 (q := q) (t := 44) (.tail _ (.tail _ (.tail _ (.tail _ (.tail _ (.head _))))))).2.2.2, (by have h := HE.out.cellI (g := g2) (n := n) (cap := k2) (l := es) (j := t) (.inl (.tail _ (.head _))) (by rw [HLE.out.1.2.1]; exact hlt); rw [← HEI.out] at h; exact h), (by have h := HE.out.cellI (g := g3) (n := n) (cap := k3) (l := ss) (j := t) (.inl (.tail _ (.tail _ (.head _)))) (by rw [HLE.out.1.2.2]; exact hlt); rw [← HSI.out] at h; exact h)⟩
                go_simp
                refine hK _ _ hC21 ?_
                clear q0 f0 hC20
                generalize W4.setCell ⟨m1, kk, none⟩ (.int .i64 (oi)) = W5 at HE hC21 ⊢
                simp only [Act.put, List.setIfInBounds_toArray, List.set_cons_succ, List.set_cons_zero]
                refine Lim.stepR 22 (fun _ => trivial) rfl (by kernel_rfl) (fun _ _ _ _ h => h) hC21 rfl ?_; apply Exists.intro; refine ⟨?_, ?_⟩
                · rintro w ⟨r1, r2, r3, r4, r5, r6, r7⟩; go_simp; try with_reducible rfl
                simp only [Act.put, List.setIfInBounds_toArray, List.set_cons_succ, List.set_cons_zero]
                refine Lim.stepE 23 (fun _ => trivial) rfl (by kernel_rfl) rfl (fun K hK => ?_)   -- E store
                have q0 : W5.cell? ⟨m2, kk, none⟩ = some (.int .i64 ((ue).getD kk 0)) := HE.out.cellI (g := m2) (n := n) (cap := o2) (l := ue) (j := kk) (.inr (.tail _ (.head _))) (by rw [HH.out.l5, ← HN.out]; exact hkk)
                have f0 : W5.frozen? ⟨m2, kk, none⟩ = false := row_frz (r := rwI (.slice (some ⟨m2, 0, none⟩) n o2) n ue) (HE.out.q _ (.tail _ (.head _))) rfl kk
                have HF := Lib.hid (Mem.setI (Q1 := [rwI (.slice (some ⟨m1, 0, none⟩) n o1) n (uo.set kk oi)]) HE.out kk (si))
                have hC22 : (fun W => W.cell? ⟨p5, 1, none⟩ = some (.slice (some ⟨m1, 0, none⟩) n o1) ∧ W.cell? ⟨p5, 2, none⟩ = some (.slice (some ⟨m2, 0, none⟩) n o2) ∧ W.cell? ⟨p5, 3, none⟩ = some (.slice (some ⟨m3, 0, none⟩) n o3) ∧ W.cell? ⟨q, 2, none⟩ = some (.slice (some ⟨g2, 0, none⟩) n k2) ∧ W.cell? ⟨q, 3, none⟩ = some (.slice (some ⟨g3, 0, none⟩) n k3) ∧ W.cell? ⟨g2, t, none⟩ = some (.int .i64 ei) ∧ W.cell? ⟨g3, t, none⟩ = some (.int .i64 si)) (W5.setCell ⟨m2, kk, none⟩ (.int .i64 (si))) := ⟨(HF.out.box4 (q := p5) (t := 44) (.head _)).2.1, (HF.out.box4 (q := p5) (t := 44) (.head _)).2.2.1, (HF.out.box4 (q := p5) (t := 44) (.head _)).2.2.2, (HF.out.box4 (q := q) (t := 44) (.tail _ (.tail _ (.tail _ (.tail _ (.tail _ (.head _))))))).2.2.1, (HF.out.box4 (q := q) (t := 44) (.tail _ (.tail _ (.tail _ (.tail _ (.tail _ (.head _))))))).2.2.2, (by have h := HF.out.cellI (g := g2) (n := n) (cap := k2) (l := es) (j := t) (.inl (.tail _ (.head _))) (by rw [HLE.out.1.2.1]; exact hlt); rw [← HEI.out] at h; exact h), (by have h := HF.out.cellI (g := g3) (n := n) (cap := k3) (l := ss) (j := t) (.inl (.tail _ (.tail _ (.head _)))) (by rw [HLE.out.1.2.2]; exact hlt); rw [← HSI.out] at h; exact h)⟩
                go_simp
                refine hK _ _ hC22 ?_
                clear q0 f0 hC21
                generalize W5.setCell ⟨m2, kk, none⟩ (.int .i64 (si)) = W6 at HF hC22 ⊢
                simp only [Act.put, List.setIfInBounds_toArray, List.set_cons_succ, List.set_cons_zero]
                refine Lim.stepR 24 (fun _ => trivial) rfl (by kernel_rfl) (fun _ _ _ _ h => h) hC22 rfl ?_; apply Exists.intro; refine ⟨?_, ?_⟩
                · rintro w ⟨r1, r2, r3, r4, r5, r6, r7⟩; go_simp; try with_reducible rfl
                simp only [Act.put, List.setIfInBounds_toArray, List.set_cons_succ, List.set_cons_zero]
                refine Lim.stepE 25 (fun _ => trivial) rfl (by kernel_rfl) rfl (fun K hK => ?_)   -- E store
                have q0 : W6.cell? ⟨m3, kk, none⟩ = some (.int .i64 ((us).getD kk 0)) := HF.out.cellI (g := m3) (n := n) (cap := o3) (l := us) (j := kk) (.inr (.tail _ (.tail _ (.head _)))) (by rw [HH.out.l6, ← HN.out]; exact hkk)
                have f0 : W6.frozen? ⟨m3, kk, none⟩ = false := row_frz (r := rwI (.slice (some ⟨m3, 0, none⟩) n o3) n us) (HF.out.q _ (.tail _ (.tail _ (.head _)))) rfl kk
                have HG := Lib.hid (Mem.setI (Q1 := [rwI (.slice (some ⟨m1, 0, none⟩) n o1) n (uo.set kk oi), rwI (.slice (some ⟨m2, 0, none⟩) n o2) n (ue.set kk si)]) HF.out kk (ei))
                have hC23 : (fun W => W.cell? ⟨p5, 1, none⟩ = some (.slice (some ⟨m1, 0, none⟩) n o1) ∧ W.cell? ⟨p5, 2, none⟩ = some (.slice (some ⟨m2, 0, none⟩) n o2) ∧ W.cell? ⟨p5, 3, none⟩ = some (.slice (some ⟨m3, 0, none⟩) n o3) ∧ W.cell? ⟨q, 2, none⟩ = some (.slice (some ⟨g2, 0, none⟩) n k2) ∧ W.cell? ⟨q, 3, none⟩ = some (.slice (some ⟨g3, 0, none⟩) n k3) ∧ W.cell? ⟨g2, t, none⟩ = some (.int .i64 ei) ∧ W.cell? ⟨g3, t, none⟩ = some (.int .i64 si)) (W6.setCell ⟨m3, kk, none⟩ (.int .i64 (ei))) := ⟨(HG.out.box4 (q := p5) (t := 44) (.head _)).2.1, (HG.out.box4 (q := p5) (t := 44) (.head _)).2.2.1, (HG.out.box4 (q := p5) (t := 44) (.head _)).2.2.2, (HG.out.box4 (q := q) (t := 44) (.tail _ (.tail _ (.tail _ (.tail _ (.tail _ (.head _))))))).2.2.1, (HG.out.box4 (q := q) (t := 44) (.tail _ (.tail _ (.tail _ (.tail _ (.tail _ (.head _))))))).2.2.2, (by have h := HG.out.cellI (g := g2) (n := n) (cap := k2) (l := es) (j := t) (.inl (.tail _ (.head _))) (by rw [HLE.out.1.2.1]; exact hlt); rw [← HEI.out] at h; exact h), (by have h := HG.out.cellI (g := g3) (n := n) (cap := k3) (l := ss) (j := t) (.inl (.tail _ (.tail _ (.head _)))) (by rw [HLE.out.1.2.2]; exact hlt); rw [← HSI.out] at h; exact h)⟩
                go_simp
                refine hK _ _ hC23 ?_
                clear q0 f0 hC22
                generalize W6.setCell ⟨m3, kk, none⟩ (.int .i64 (ei)) = W7 at HG hC23 ⊢
                simp only [Act.put, List.setIfInBounds_toArray, List.set_cons_succ, List.set_cons_zero]
                refine Lim.stepD (by kernel_rfl) ?_
                clear hC23 HE HF HD
                go_wp2_with fail
                go_roundw
                case rel => exact ⟨t + 1, by omega, by go_num, _, _, _, _, _, _, Lib.hid (by
                  have h := HH.out.step (oo' := oo1) (by omega) HLN.out (by rw [← HOI.out]; exact HO2.out)
                  rw [← HKK.out, ← HOI.out, ← HEI.out, ← HSI.out] at h
                  exact h), HG⟩
                case measure => simp [intOf]; omega
            · obtain rfl : n = t := by omega
              have hh := HH.out
              rw [HN.out] at hh
              have HLA : Hid (LandG wd hi os es1 ss) := Lib.hid (HL.out.1.rich (u := u) (p := p) (fun k hk => (HL.out.2.2.2.2.1 k hk).1) (by rw [HE1.out.1, HN.out]) ⟨HE1.out.2.1.1, by have := HE1.out.2.1.2; have := HUP.out; omega⟩ HE1.out.2.2.1 (fun a ha => HE1.out.2.2.2 a (by rw [HN.out]; exact ha)))
              have HLB : Hid (LandG wd hi os1 es ss) := Lib.hid (HL.out.1.sure (by rw [HO1.out.1, HN.out]) (fun a ha => HO1.out.2 a (by rw [HN.out]; exact ha)))
              have HLC := Lib.hid (hh.twice HL.out.1 HL.out.2.2.2.2.1)
              have HLC1 : Hid (LandG wd hi os te ts) := Lib.hid HLC.out.1
              have HLX := Lib.hid (hh.other HL.out.1)
              have HLX1 : Hid (LandG wd hi oo es ss) := Lib.hid HLX.out.1
              have HLY := Lib.hid (hh.turned HL.out.1)
              have HQU := Lib.hid hh.quarter
              have HNT : Hid (hi * wd = n) := Lib.hid (by rw [HN.out, Nat.mul_comm])
              clear hh HH hlt ht
              obtain ⟨w20, rfl⟩ : ∃ w20, w20 = wr := ⟨_, rfl⟩
              obtain ⟨b0, b1, b2, b3⟩ := HM.out.box4 (q := p1) (a := .int .i64 wd) (b := .slice (some ⟨a11, 0, none⟩) n b11) (e := .slice (some ⟨a12, 0, none⟩) n b12) (f := .slice (some ⟨a13, 0, none⟩) n b13) (t := 44) (.tail _ (.head _))
              have CD := Lib.hid (Divide_any (B := w20.heap.size) (wd := wd) (os := os) (es := es1) (ss := ss) (w := w20) (by have h1 := HLA.out.lo; have h2 := HLA.out.le; have h3 := HLA.out.ls; have h4 := HLA.out.n1; omega) (Nat.le_refl _) (HM.out.rsI (v := .slice (some ⟨a11, 0, none⟩) n b11) (n := n) (.inr (.tail _ (.tail _ (.tail _ (.head _))))) (by rw [HLA.out.lo]; exact HN.out.symm)) (HM.out.rsI (v := .slice (some ⟨a12, 0, none⟩) n b12) (n := n) (.inr (.tail _ (.tail _ (.tail _ (.tail _ (.head _)))))) (by rw [HLA.out.le]; exact HN.out.symm)) (HM.out.rsI (v := .slice (some ⟨a13, 0, none⟩) n b13) (n := n) (.inr (.tail _ (.tail _ (.tail _ (.tail _ (.tail _ (.head _))))))) (by rw [HLA.out.ls]; exact HN.out.symm)))
              go_wp2_with fail
              refine CD.out.mono ?_
              rintro e w21 h
              obtain ⟨hb, M21, u21, va, rfl, -, -, -, hmin⟩ := h.min HLA.out
              have HK21 := Lib.hid (HM.out.grow hb)
              have HI21 := Lib.hid hmin
              clear hb hmin CD h b0 b1 b2 b3 HM
              obtain ⟨b0, b1, b2, b3⟩ := HK21.out.box4 (q := p2) (a := .int .i64 wd) (b := .slice (some ⟨a21, 0, none⟩) n b21) (e := .slice (some ⟨a22, 0, none⟩) n b22) (f := .slice (some ⟨a23, 0, none⟩) n b23) (t := 44) (.tail _ (.tail _ (.head _)))
              have CD := Lib.hid (Divide_any (B := w21.heap.size) (wd := wd) (os := os1) (es := es) (ss := ss) (w := w21) (by have h1 := HLB.out.lo; have h2 := HLB.out.le; have h3 := HLB.out.ls; have h4 := HLB.out.n1; omega) (Nat.le_refl _) (HK21.out.rsI (v := .slice (some ⟨a21, 0, none⟩) n b21) (n := n) (.inr (.tail _ (.tail _ (.tail _ (.tail _ (.tail _ (.tail _ (.head _)))))))) (by rw [HLB.out.lo]; exact HN.out.symm)) (HK21.out.rsI (v := .slice (some ⟨a22, 0, none⟩) n b22) (n := n) (.inr (.tail _ (.tail _ (.tail _ (.tail _ (.tail _ (.tail _ (.tail _ (.head _))))))))) (by rw [HLB.out.le]; exact HN.out.symm)) (HK21.out.rsI (v := .slice (some ⟨a23, 0, none⟩) n b23) (n := n) (.inr (.tail _ (.tail _ (.tail _ (.tail _ (.tail _ (.tail _ (.tail _ (.tail _ (.head _)))))))))) (by rw [HLB.out.ls]; exact HN.out.symm)))
              go_wp2_with fail
              refine CD.out.mono ?_
              rintro e w22 h
              obtain ⟨hb, M22, u22, vb, rfl, -, -, -, hmin⟩ := h.min HLB.out
              have HK22 := Lib.hid (HK21.out.grow hb)
              have HI22 := Lib.hid hmin
              clear hb hmin CD h b0 b1 b2 b3 HK21
              obtain ⟨b0, b1, b2, b3⟩ := HK22.out.box4 (q := p3) (a := .int .i64 wd) (b := .slice (some ⟨a31, 0, none⟩) n b31) (e := .slice (some ⟨a32, 0, none⟩) n b32) (f := .slice (some ⟨a33, 0, none⟩) n b33) (t := 44) (.tail _ (.tail _ (.tail _ (.head _))))
              have CD := Lib.hid (Divide_any (B := w22.heap.size) (wd := wd) (os := os) (es := te) (ss := ts) (w := w22) (by have h1 := HLC1.out.lo; have h2 := HLC1.out.le; have h3 := HLC1.out.ls; have h4 := HLC1.out.n1; omega) (Nat.le_refl _) (HK22.out.rsI (v := .slice (some ⟨a31, 0, none⟩) n b31) (n := n) (.inr (.tail _ (.tail _ (.tail _ (.tail _ (.tail _ (.tail _ (.tail _ (.tail _ (.tail _ (.head _))))))))))) (by rw [HLC1.out.lo]; exact HN.out.symm)) (HK22.out.rsI (v := .slice (some ⟨a32, 0, none⟩) n b32) (n := n) (.inr (.tail _ (.tail _ (.tail _ (.tail _ (.tail _ (.tail _ (.tail _ (.tail _ (.tail _ (.tail _ (.head _)))))))))))) (by rw [HLC1.out.le]; exact HN.out.symm)) (HK22.out.rsI (v := .slice (some ⟨a33, 0, none⟩) n b33) (n := n) (.inr (.tail _ (.tail _ (.tail _ (.tail _ (.tail _ (.tail _ (.tail _ (.tail _ (.tail _ (.tail _ (.tail _ (.head _))))))))))))) (by rw [HLC1.out.ls]; exact HN.out.symm)))
              go_wp2_with fail
              refine CD.out.mono ?_
              rintro e w23 h
              obtain ⟨hb, M23, u23, vc, rfl, -, -, -, hmin⟩ := h.min HLC1.out
              have HK23 := Lib.hid (HK22.out.grow hb)
              have HI23 := Lib.hid hmin
              clear hb hmin CD h b0 b1 b2 b3 HK22
              obtain ⟨b0, b1, b2, b3⟩ := HK23.out.box4 (q := p4) (a := .int .i64 wd) (b := .slice (some ⟨a41, 0, none⟩) n b41) (e := .slice (some ⟨a42, 0, none⟩) n b42) (f := .slice (some ⟨a43, 0, none⟩) n b43) (t := 44) (.tail _ (.tail _ (.tail _ (.tail _ (.head _)))))
              have CD := Lib.hid (Divide_any (B := w23.heap.size) (wd := wd) (os := oo) (es := es) (ss := ss) (w := w23) (by have h1 := HLX1.out.lo; have h2 := HLX1.out.le; have h3 := HLX1.out.ls; have h4 := HLX1.out.n1; omega) (Nat.le_refl _) (HK23.out.rsI (v := .slice (some ⟨a41, 0, none⟩) n b41) (n := n) (.inr (.tail _ (.tail _ (.tail _ (.tail _ (.tail _ (.tail _ (.tail _ (.tail _ (.tail _ (.tail _ (.tail _ (.tail _ (.head _)))))))))))))) (by rw [HLX1.out.lo]; exact HN.out.symm)) (HK23.out.rsI (v := .slice (some ⟨a42, 0, none⟩) n b42) (n := n) (.inr (.tail _ (.tail _ (.tail _ (.tail _ (.tail _ (.tail _ (.tail _ (.tail _ (.tail _ (.tail _ (.tail _ (.tail _ (.tail _ (.head _))))))))))))))) (by rw [HLX1.out.le]; exact HN.out.symm)) (HK23.out.rsI (v := .slice (some ⟨a43, 0, none⟩) n b43) (n := n) (.inr (.tail _ (.tail _ (.tail _ (.tail _ (.tail _ (.tail _ (.tail _ (.tail _ (.tail _ (.tail _ (.tail _ (.tail _ (.tail _ (.tail _ (.head _)))))))))))))))) (by rw [HLX1.out.ls]; exact HN.out.symm)))
              go_wp2_with fail
              refine CD.out.mono ?_
              rintro e w24 h
              obtain ⟨hb, M24, u24, vx, rfl, -, -, -, hmin⟩ := h.min HLX1.out
              have HK24 := Lib.hid (HK23.out.grow hb)
              have HI24 := Lib.hid hmin
              clear hb hmin CD h b0 b1 b2 b3 HK23
              obtain ⟨b0, b1, b2, b3⟩ := HK24.out.box4 (q := p5) (a := .int .i64 hi) (b := .slice (some ⟨m1, 0, none⟩) n o1) (e := .slice (some ⟨m2, 0, none⟩) n o2) (f := .slice (some ⟨m3, 0, none⟩) n o3) (t := 44) (.head _)
              have CD := Lib.hid (Divide_any (B := w24.heap.size) (wd := hi) (os := uo) (es := ue) (ss := us) (w := w24) (by have h1 := HLY.out.lo; have h2 := HLY.out.le; have h3 := HLY.out.ls; have h4 := HLY.out.n1; omega) (Nat.le_refl _) (HK24.out.rsI (v := .slice (some ⟨m1, 0, none⟩) n o1) (n := n) (.inr (.head _)) (by rw [HLY.out.lo]; exact HNT.out)) (HK24.out.rsI (v := .slice (some ⟨m2, 0, none⟩) n o2) (n := n) (.inr (.tail _ (.head _))) (by rw [HLY.out.le]; exact HNT.out)) (HK24.out.rsI (v := .slice (some ⟨m3, 0, none⟩) n o3) (n := n) (.inr (.tail _ (.tail _ (.head _)))) (by rw [HLY.out.ls]; exact HNT.out)))
              go_wp2_with fail
              refine CD.out.mono ?_
              rintro e w25 h
              obtain ⟨hb, M25, u25, vy, rfl, -, -, -, hmin⟩ := h.min HLY.out
              have HK25 := Lib.hid (HK24.out.grow hb)
              have HI25 := Lib.hid hmin
              clear hb hmin CD h b0 b1 b2 b3 HK24
              have ha := HB0.out.rich HI21.out (p := p) (u := u) (fun a ha => HE1.out.2.2.2 a (by rw [HN.out]; exact ha)) HE1.out.2.1.1
              have hb := HB0.out.sure HI22.out (fun a ha => by rcases HO1.out.2 a (by rw [HN.out]; exact ha) with h | h; exact .inl h; exact .inr h.1)
              have hc := HB0.out.twice HI23.out HLC.out.2.1 HLC.out.2.2
              have hx := HB0.out.other HI24.out HLX.out.2
              have hy := IsMin.turned HQU.out HL.out.1.w1 HL.out.1.h1 (by rw [Nat.mul_comm hi wd]; exact HB0.out) (by rw [Nat.mul_comm wd hi]; exact HI25.out)
              have hbd := IsMin.bound HL.out.1 HB0.out
              have hup : up < 50 := HUP.out
              have hue : u ≤ up := HE1.out.2.1.2
              have r1 : decide (best ≤ va) = true := decide_eq_true ha.1
              have r2 : decide (va ≤ best + (up : Int)) = true := decide_eq_true (by omega)
              have r3 : decide (best ≤ vb) = true := decide_eq_true hb
              have r4 : IntKind.i64.wrap (best + (up : Int)) = best + (up : Int) := IntWalk.i64_in _ (by omega)
              have r5 : IntKind.i64.wrap (2 * best) = 2 * best := IntWalk.i64_in _ (by omega)
              subst hc hx hy
              have CA := Lib.hid (awake_any w25)
              clear ha hb hbd hup hue
              go_wp2_with fail
              refine CA.out.mono ?_
              rintro e w26 ⟨rfl, hb26⟩
              have HBF := Lib.hid (HK25.out.grow hb26).b
              clear hb26
              go_wp2
              go_ret
              exact ⟨rfl, HBF.out⟩
end Go.Proofs.Ytkjcnkkmhkcddaa
