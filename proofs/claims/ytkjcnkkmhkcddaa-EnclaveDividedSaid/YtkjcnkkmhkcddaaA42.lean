/-
  Parts of the proof, in the order in which they build: EwL, EwP, EwQ.
-/
import Derived.Deep.CutRange
import Derived.Test.YtkjcnkkmhkcddaaC1
import Derived.Test.YtkjcnkkmhkcddaaA37
import Derived.Test.YtkjcnkkmhkcddaaA24
import Derived.Test.YtkjcnkkmhkcddaaA40
import Derived.Test.YtkjcnkkmhkcddaaA41
import Derived.Test.YtkjcnkkmhkcddaaA8
set_option linter.unusedVariables false
set_option linter.unusedSimpArgs false
/-
  The examples of the chapter, in plain words: two maps and a land.
-/
namespace Go.Proofs.Ytkjcnkkmhkcddaa
open Go.RowKit Go.Shelf
open Lim

/-- example 1, with the owner of plot 7 -/
def ringO (o : Int) : List Int := [0, 0, 0, 0, 0, 0, 1, o, 1, 0, 0, 1, 0, 1, 0, 0, 1, 1, 1, 0, 0, 0, 0, 0, 0]
def ringM (o : Int) : Mp := ⟨5, ringO o⟩
theorem ring_ok (o : Int) : (ringM o).Ok := ⟨by show 0 < 5; decide, by show 0 < 25; decide, by show 25 ≤ 100; decide, by show 25 % 5 = 0; decide⟩
def rl1 : List Nat := [0, 0, 0, 0, 0, 0, 1, 1, 1, 0, 0, 1, 2, 1, 0, 0, 1, 1, 1, 0, 0, 0, 0, 0, 0]
def rl2 : List Nat := [0, 0, 0, 0, 0, 0, 1, 2, 1, 0, 0, 1, 3, 1, 0, 0, 1, 1, 1, 0, 0, 0, 0, 0, 0]
def tab1 : List (List Bool) := [[false, false, false], [true, false, false], [true, true, false]]
def tab2 : List (List Bool) := [[false, false, false, false], [true, false, false, false], [true, false, false, false], [true, false, false, false]]
theorem creg1 : cReg (ringM 1) 12 rl1 3 = true := by decide +kernel
theorem creg2 : cReg (ringM 2) 12 rl2 4 = true := by decide +kernel
theorem ctab1 : cTab (ringM 1) rl1 3 12 tab1 = true := by decide +kernel
theorem ctab2 : cTab (ringM 2) rl2 4 12 tab2 = true := by decide +kernel
theorem err1 : errE 5 (ringO 1) = 0 := by decide +kernel
theorem err2 : errE 5 (ringO 2) = 0 := by decide +kernel
section
variable {r : Nat → Nat} {k : Nat}
theorem dep1 (hr : IsReg (ringM 1) r) (hk : IsMany (ringM 1) r k) : k = 3 ∧ depL (ringM 1) r k = [0, 1, 2] := by
  obtain ⟨rfl, -, -, h, -⟩ := closed_map (ring_ok 1) creg1 ctab1 hr hk
  refine ⟨rfl, ?_⟩
  show [((inCount (ringM 1) r 0 3 : Nat) : Int), ((inCount (ringM 1) r 1 3 : Nat) : Int), ((inCount (ringM 1) r 2 3 : Nat) : Int)] = _
  rw [h 0 (by decide), h 1 (by decide), h 2 (by decide)]; rfl
theorem dep2 (hr : IsReg (ringM 2) r) (hk : IsMany (ringM 2) r k) : k = 4 ∧ depL (ringM 2) r k = [0, 1, 1, 1] := by
  obtain ⟨rfl, -, -, h, -⟩ := closed_map (ring_ok 2) creg2 ctab2 hr hk
  refine ⟨rfl, ?_⟩
  show [((inCount (ringM 2) r 0 4 : Nat) : Int), ((inCount (ringM 2) r 1 4 : Nat) : Int), ((inCount (ringM 2) r 2 4 : Nat) : Int), ((inCount (ringM 2) r 3 4 : Nat) : Int)] = _
  rw [h 0 (by decide), h 1 (by decide), h 2 (by decide), h 3 (by decide)]; rfl
theorem aro1 (hr : IsReg (ringM 1) r) (hk : IsMany (ringM 1) r k) {A : Nat → Int} (hA : ∀ i, i < k → IsAr (ringM 1) r i k (A i)) : k = 3 ∧ (List.range k).map A = [-1, 0, 1] := by
  obtain ⟨rfl, -, -, -, h⟩ := closed_map (ring_ok 1) creg1 ctab1 hr hk
  refine ⟨rfl, ?_⟩
  show [A 0, A 1, A 2] = _
  rw [h 0 (-1) _ (by decide) rfl (hA 0 (by decide)), h 1 0 _ (by decide) rfl (hA 1 (by decide)), h 2 1 _ (by decide) rfl (hA 2 (by decide))]
theorem aro2 (hr : IsReg (ringM 2) r) (hk : IsMany (ringM 2) r k) {A : Nat → Int} (hA : ∀ i, i < k → IsAr (ringM 2) r i k (A i)) : k = 4 ∧ (List.range k).map A = [-1, 0, 0, 0] := by
  obtain ⟨rfl, -, -, -, h⟩ := closed_map (ring_ok 2) creg2 ctab2 hr hk
  refine ⟨rfl, ?_⟩
  show [A 0, A 1, A 2, A 3] = _
  rw [h 0 (-1) _ (by decide) rfl (hA 0 (by decide)), h 1 0 _ (by decide) rfl (hA 1 (by decide)), h 2 0 _ (by decide) rfl (hA 2 (by decide)), h 3 0 _ (by decide) rfl (hA 3 (by decide))]
theorem giv1 (hr : IsReg (ringM 1) r) (hk : IsMany (ringM 1) r k) {x : Int} {O : Nat → Int} (hx : IsAr (ringM 1) r 2 k x) (hO : IsGiv (ringM 1) r (fun j => if j = 2 then x else -1) O 25) : x = 1 ∧ O 12 = 1 := by
  obtain ⟨rfl, e, -, -, h⟩ := closed_map (ring_ok 1) creg1 ctab1 hr hk
  obtain rfl := h 2 1 _ (by decide) rfl hx
  have h1 : r 12 = 2 := e 12 (by show 12 < 25; decide)
  have h2 : r 6 = 1 := e 6 (by show 6 < 25; decide)
  refine ⟨rfl, ?_⟩
  exact hO.2.1 12 (by decide) 6 (by show 6 < 25; decide) (by rw [h1, h2]; rfl)
theorem clr1 (hr : IsReg (ringM 1) r) (hk : IsMany (ringM 1) r k) {T O : Nat → Int} (hT : ∀ j, j < k → IsOutm (ringM 1) r k T j) (hO : IsGiv (ringM 1) r T O 25) : (List.range 25).map O = List.replicate 25 0 ∧ plotL O (fun p => (ringO 1).getD p 0) 25 = [6, 7, 8, 11, 13, 16, 17, 18] := by
  obtain ⟨rfl, e, hin, -, -⟩ := closed_map (ring_ok 1) creg1 ctab1 hr hk
  have hI : ∀ i j, i < 3 → j < 3 → (In (ringM 1) r i j ↔ (tab1.getD i []).getD j false = true) := hin
  have n0 : ∀ j, j < 3 → ¬ In (ringM 1) r 0 j := fun j hj h => by
    have := (hI 0 j (by decide) hj).1 h
    rcases (show j = 0 ∨ j = 1 ∨ j = 2 by omega) with rfl | rfl | rfl <;> cases this
  have i1 : In (ringM 1) r 1 0 := (hI 1 0 (by decide) (by decide)).2 rfl
  have i2 : In (ringM 1) r 2 0 := (hI 2 0 (by decide) (by decide)).2 rfl
  have t0 : T 0 = -1 := by
    rcases hT 0 (by decide) with ⟨h, -⟩ | ⟨y, -, h1, h2, -⟩
    · exact h
    · exact absurd h2 (n0 y h1)
  have tj : ∀ j, j = 1 ∨ j = 2 → T j = 0 := fun j hj => by
    have ij : In (ringM 1) r j 0 := by rcases hj with rfl | rfl <;> assumption
    rcases hT j (by omega) with ⟨-, h⟩ | ⟨y, hy, h1, h2, h3⟩
    · exact absurd ij (h 0)
    · rcases (show y = 0 ∨ y = 1 ∨ y = 2 by omega) with rfl | rfl | rfl
      · exact hy
      · exact absurd i1 (h3 0)
      · exact absurd i2 (h3 0)
  have hz : ∀ p, p < 25 → O p = 0 := fun p hp => by
    have h1 : r p = rl1.getD p 0 := e p hp
    have h0 : r 0 = 0 := e 0 (by show 0 < 25; decide)
    have h2 : ∀ p, p < 25 → rl1.getD p 0 = 0 ∧ (ringO 1).getD p 0 = 0 ∨ rl1.getD p 0 = 1 ∨ rl1.getD p 0 = 2 := by decide
    rcases h2 p hp with ⟨h3, h4⟩ | h3 | h3
    · rw [hO.1 p hp (by rw [h1, h3]; exact t0)]; exact h4
    · exact hO.2.1 p hp 0 (by show 0 < 25; decide) (by rw [h1, h3, h0]; exact tj 1 (.inl rfl))
    · exact hO.2.1 p hp 0 (by show 0 < 25; decide) (by rw [h1, h3, h0]; exact tj 2 (.inr rfl))
  have hc : ∀ t, t ≤ 25 → plotL O (fun p => (ringO 1).getD p 0) t = plotL (fun _ => 0) (fun p => (ringO 1).getD p 0) t := by
    intro t
    induction t with
    | zero => intro _; rfl
    | succ t ih => intro ht; rw [plotL, plotL, ih (by omega), hz t (by omega)]
  refine ⟨?_, ?_⟩
  · rw [List.map_congr_left (g := fun _ => (0 : Int)) (fun p hp => hz p (List.mem_range.1 hp))]; rfl
  · rw [hc 25 (Nat.le_refl _)]; decide
theorem lea2 (hr : IsReg (ringM 2) r) (hk : IsMany (ringM 2) r k) : k = 4 ∧ Leads (ringM 2) r 3 1 [12, 7, 2] := by
  obtain ⟨rfl, e, -, -, -⟩ := closed_map (ring_ok 2) creg2 ctab2 hr hk
  refine ⟨rfl, (leads_iff (by decide)).2 ⟨by decide, ?_, by decide, ?_⟩⟩
  · exact e 12 (by show 12 < 25; decide)
  · intro p hp
    have hp : p = 12 ∨ p = 7 ∨ p = 2 := by simpa using hp
    rcases hp with rfl | rfl | rfl
    · rw [e 12 (by show 12 < 25; decide)]; decide
    · rw [e 7 (by show 7 < 25; decide)]; decide
    · rw [e 2 (by show 2 < 25; decide)]; decide
end
/-! Example 4. -/
def sqO : List Int := [0, -1, -1, 1]
def sqE : List Int := [3, 0, 2, 0]
def sqS : List Int := [1, 2, 0, 0]
theorem errSq : errL 2 sqO sqE sqS = 0 := by decide +kernel
def hSq : Nat → Nat → Int := fun a b => (hsF 4 2 (fun k => sqE.getD k 0) (fun k => sqS.getD k 0) a b).getD 0
theorem cutSq (D : Nat → Bool) (h0 : D 0 = false) (h3 : D 3 = true) : cutOf 4 hSq D = (if D 1 = true then 3 else 2) + (if D 2 = true then 1 else 2) := by
  have e1 : hSq 0 1 = 3 := by decide +kernel
  have e2 : hSq 0 2 = 1 := by decide +kernel
  have e3 : hSq 1 3 = 2 := by decide +kernel
  have e4 : hSq 2 3 = 2 := by decide +kernel
  have e5 : hSq 1 2 = 0 := by decide +kernel
  have e6 : hSq 2 1 = 0 := by decide +kernel
  have e7 : hSq 0 3 = 0 := by decide +kernel
  simp only [cutOf, sm, h0, h3]
  cases h1 : D 1 <;> cases h2 : D 2 <;> simp [e1, e2, e3, e4, e5, e6, e7]
theorem divSq {M : Nat → Bool} {c : Int} {g : Nat → Nat → Int} (hK : Keeps 4 (fun k => sqO.getD k 0) (fun k => !M k)) (hF : Flow 4 (fun k => sqO.getD k 0) hSq g) (hv : c = value 4 (fun k => sqO.getD k 0) g) (hc : c = cutOf 4 hSq (fun k => !M k)) : ownL M 4 = [0, 0, 1, 1] ∧ c = 3 := by
  have k0 := hK 0 (by decide)
  have k3 := hK 3 (by decide)
  simp [sqO] at k0 k3
  have h1 := cutSq (fun k => !M k) (by simp [k0]) (by simp [k3])
  have hle := hF.le (D := fun k => decide (2 ≤ k)) (by
    intro a ha
    rcases (show a = 0 ∨ a = 1 ∨ a = 2 ∨ a = 3 by omega) with rfl | rfl | rfl | rfl <;> simp [sqO])
  rw [cutSq _ rfl rfl, ← hv, hc, h1] at hle
  rw [hc, h1]
  show [if M 0 = true then (0 : Int) else 1, if M 1 = true then 0 else 1, if M 2 = true then 0 else 1, if M 3 = true then 0 else 1] = _ ∧ _
  cases m1 : M 1 <;> cases m2 : M 2 <;> simp [m1, m2] at hle <;> simp [k0, k3, m1, m2]
def sqW : List (List Int × Int) := [([0, 1, 3], 2), ([0, 2, 3], 1)]
theorem proSq : wErr 4 sqW = 0 ∧ PGood ⟨2, sqO⟩ hSq (natW sqW) ∧ wtot (natW sqW) = 3 := by
  refine ⟨by decide +kernel, ⟨by decide +kernel, ?_⟩, by decide +kernel⟩
  have : ∀ b, b < 4 → ∀ a, a < b → wuse (natW sqW) a b ≤ hSq a b := by decide +kernel
  exact fun a b hab hb => this b hb a hab
end Go.Proofs.Ytkjcnkkmhkcddaa
/-
  The chapter's examples as the law makes them: the contracts of Ring and Square.
-/
namespace Go.Proofs.Ytkjcnkkmhkcddaa
open Go.RowKit Go.Shelf
open Lim

attribute [local go_sem] Oper.semAt_some

theorem infoLand4 : (Try.prog.info? 44).map (·.size) = some 4 := by kernel_rfl
theorem RS.on {w w' : World} {v : Value} {n : Nat} {xs : List Value} (h : RS w.heap.size w v n xs) (hb : Below w.heap.size w w') : RS w'.heap.size w' v n xs := (h.below hb).mono hb.size
theorem rs_new {w W : World} {t n : Nat} (X : List Value) (h : W = w.alloc (.cells X.toArray t)) : RS W.heap.size W (.slice (some ⟨w.heap.size, 0, none⟩) n n) n X := by
  subst h
  refine ⟨_, _, rfl, fun _ => ⟨_, _, rfl, by simp, fun j u hj => ?_⟩⟩
  rw [Nat.zero_add, World.cell?_alloc_new, List.getElem?_toArray]
  exact hj
def ringP : List Nat := [6, 7, 8, 11, 13, 16, 17, 18]
def ringR (k : Nat) (p : Nat) : Int := if p ∈ ringP.take k then 1 else 0
theorem ringR_next {k y : Nat} (h : ringP[k]? = some y) : upd (ringR k) y 1 = ringR (k + 1) := by
  funext p
  unfold ringR upd
  rw [List.take_add_one, h]
  by_cases e : p = y
  · simp [e]
  · simp [e]
theorem ringO_at (o : Int) {j : Nat} (hj : j < 25) : (ringO o)[j]? = some (upd (ringR 8) 7 o j) := by
  have e : ringO o = (ringO 0).set 7 o := rfl
  rw [e]
  by_cases h : j = 7
  · subst h; rfl
  · rw [List.getElem?_set_ne (by omega)]
    have : ∀ j, j < 25 → j ≠ 7 → (ringO 0)[j]? = some (ringR 8 j) := by decide
    rw [this j hj h]; unfold upd; rw [if_neg h]
/-- what Ring keeps -/
structure RgM (w : World) (q2 q3 q8 g : Nat) (R : Nat → Int) (W : World) : Prop where
  be : Below w.heap.size w W
  c2 : W.cell? ⟨q2, 0, none⟩ = some (.int .i64 0) ∧ W.cell? ⟨q2, 1, none⟩ = some (.slice none 0 0) ∧ W.frozen? ⟨q2, 0, none⟩ = false ∧ W.frozen? ⟨q2, 1, none⟩ = false
  c3 : W.cell? ⟨q3, 0, none⟩ = some (.int .i64 5) ∧ W.cell? ⟨q3, 1, none⟩ = some (.slice (some ⟨g, 0, none⟩) 25 25)
  c8 : ∀ j y, ringP[j]? = some y → W.cell? ⟨q8, j, none⟩ = some (.int .i64 (y : Nat))
  r : RowC W g 25 R
  lt : w.heap.size ≤ q2 ∧ w.heap.size ≤ g ∧ q2 ≠ g ∧ q3 ≠ g ∧ q8 ≠ g
theorem RgM.put {w W : World} {q2 q3 q8 g : Nat} {R : Nat → Int} (h : RgM w q2 q3 q8 g R W) {k : Nat} (hk : k < 25) (v : Int) : RgM w q2 q3 q8 g (upd R k v) (W.setCell ⟨g, k, none⟩ (.int .i64 v)) :=
  have hl := h.lt
  have hs := Sep.set W g k (.int .i64 v)
  have f : ∀ {q : Nat}, q ≠ g → ¬ q = g := fun h => h
  ⟨h.be.setCell (p := ⟨g, k, none⟩) hl.2.1 _, ⟨hs.cell h.c2.1 (f hl.2.2.1), hs.cell h.c2.2.1 (f hl.2.2.1), hs.frozen h.c2.1 (f hl.2.2.1) h.c2.2.2.1, hs.frozen h.c2.2.1 (f hl.2.2.1) h.c2.2.2.2⟩, ⟨hs.cell h.c3.1 (f hl.2.2.2.1), hs.cell h.c3.2 (f hl.2.2.2.1)⟩, fun j y hj => hs.cell (h.c8 j y hj) (f hl.2.2.2.2), h.r.put hk v, h.lt⟩
set_option maxRecDepth 20000 in
set_option maxHeartbeats 1000000 in
theorem Ring_any (o : Int) (w : World) : Calls Try.prog 45 #[.int .i64 o] w fun e w' => ∃ g, e = .returned (.agg #[.int .i64 5, .slice (some ⟨g, 0, none⟩) 25 25]) ∧ RS w'.heap.size w' (.slice (some ⟨g, 0, none⟩) 25 25) 25 (ints (ringO o)) ∧ Below w.heap.size w w' := by
  obtain ⟨i0, hi, hz0, hz1, hz2⟩ := info_parts Try.infoInt
  have hmk := made_ints (w := (w.alloc (.cells #[.int .i64 0, .slice none 0 0] 24))) ⟨hi, hz0, hz1, hz2⟩ (n := 25) (by omega)
  have HM : Hid (∃ g W1, g = w.heap.size + 1 ∧ (w.alloc (.cells #[.int .i64 0, .slice none 0 0] 24)).alloc (.cells (Array.replicate 25 (.int .i64 0)) 3) = W1 ∧ RgM w w.heap.size W1.heap.size (W1.heap.size + 1) g (ringR 0) ((W1.alloc (.cells #[.int .i64 5, .slice (some ⟨g, 0, none⟩) 25 25] 24)).alloc (.cells #[.int .i64 6, .int .i64 7, .int .i64 8, .int .i64 11, .int .i64 13, .int .i64 16, .int .i64 17, .int .i64 18] 3))) := Lib.hid (by
    refine ⟨_, _, rfl, rfl, ?_⟩
    have hsz : ((w.alloc (.cells #[.int .i64 0, .slice none 0 0] 24)).alloc (.cells (Array.replicate 25 (.int .i64 0)) 3)).heap.size = w.heap.size + 2 := by simp
    generalize hW : (w.alloc (.cells #[.int .i64 0, .slice none 0 0] 24)).alloc (.cells (Array.replicate 25 (.int .i64 0)) 3) = W1 at hsz
    have hb1 : Below w.heap.size w W1 := by rw [← hW]; exact ((Below.refl _ w).alloc (Nat.le_refl _) _).alloc (by simp) _
    have hb2 : Below W1.heap.size W1 ((W1.alloc (.cells #[.int .i64 5, .slice (some ⟨w.heap.size + 1, 0, none⟩) 25 25] 24)).alloc (.cells #[.int .i64 6, .int .i64 7, .int .i64 8, .int .i64 11, .int .i64 13, .int .i64 16, .int .i64 17, .int .i64 18] 3)) := ((Below.refl _ W1).alloc (Nat.le_refl _) _).alloc (by simp) _
    have a0 : W1.cell? ⟨w.heap.size, 0, none⟩ = some (.int .i64 0) := by rw [← hW]; simp [go_sem]
    have a1 : W1.cell? ⟨w.heap.size, 1, none⟩ = some (.slice none 0 0) := by rw [← hW]; simp [go_sem]
    have a2 : W1.frozen? ⟨w.heap.size, 0, none⟩ = false := by rw [← hW]; simp [go_sem]
    have a3 : W1.frozen? ⟨w.heap.size, 1, none⟩ = false := by rw [← hW]; simp [go_sem]
    have hr : RowC W1 (w.heap.size + 1) 25 (ringR 0) := by
      have e : w.heap.size + 1 = (w.alloc (.cells #[.int .i64 0, .slice none 0 0] 24)).heap.size := by simp
      rw [e, ← hW]
      refine ⟨fun j hj => ?_, fun j hj => World.frozen?_alloc_new .., ⟨_, heap_alloc_new _ _, by simp⟩⟩
      rw [World.cell?_alloc_new, Array.getElem?_replicate, if_pos hj]; rfl
    refine ⟨hb1.trans (hb2.mono hb1.size), ⟨hb2.on a0, hb2.on a1, frozen_on hb2 a0 a2, frozen_on hb2 a1 a3⟩, ⟨by simp [go_sem], by simp [go_sem]⟩, fun j y hj => ?_, hr.grow hb2, by omega, by omega, by omega, by omega, by omega⟩
    have e : W1.heap.size + 1 = (W1.alloc (.cells #[.int .i64 5, .slice (some ⟨w.heap.size + 1, 0, none⟩) 25 25] 24)).heap.size := by simp
    rw [e, World.cell?_alloc_new]
    have h : ∀ j y, ringP[j]? = some y → (#[Value.int .i64 6, .int .i64 7, .int .i64 8, .int .i64 11, .int .i64 13, .int .i64 16, .int .i64 17, .int .i64 18] : Array Value)[j]? = some (Value.int .i64 (y : Nat)) := fun j y hj => by
      have hlt := (List.getElem?_eq_some_iff.1 hj).1
      have hlt : j < 8 := hlt
      rcases (by omega : j = 0 ∨ j = 1 ∨ j = 2 ∨ j = 3 ∨ j = 4 ∨ j = 5 ∨ j = 6 ∨ j = 7) with rfl | rfl | rfl | rfl | rfl | rfl | rfl | rfl <;> cases hj <;> rfl
    exact h j y hj)
  obtain ⟨g, W1, hg, hW, hM⟩ := HM.out
  have hgs : (w.alloc (.cells #[.int .i64 0, .slice none 0 0] 24)).heap.size = g := by rw [hg]; simp
  rw [hW, hgs] at hmk
  have HM0 := Lib.hid hM
  clear hM HM hg hW hgs hi hz0 hz1 hz2
  have hmk' : (Instr.makeSlice 22 (.int .i64 25) (.int .i64 25)).run Try.prog (w.alloc (.cells #[.int .i64 0, .slice none 0 0] 24)) = .ok (.slice (some ⟨g, 0, none⟩) 25 25) W1 := hmk
  clear hmk
  go_enter Try.func45, Try.ntmps45
  go_wp2_with fail
  clear hmk'
  generalize (W1.alloc (.cells #[.int .i64 5, .slice (some ⟨g, 0, none⟩) 25 25] 24)).alloc (.cells #[.int .i64 6, .int .i64 7, .int .i64 8, .int .i64 11, .int .i64 13, .int .i64 16, .int .i64 17, .int .i64 18] 3) = W3 at HM0 ⊢
  obtain ⟨q2, hq2⟩ : ∃ q, q = w.heap.size := ⟨_, rfl⟩
  obtain ⟨q3, hq3⟩ : ∃ q, q = W1.heap.size := ⟨_, rfl⟩
  obtain ⟨q8, hq8⟩ : ∃ q, q = W1.heap.size + 1 := ⟨_, rfl⟩
  have HM0 : Hid (RgM w q2 q3 q8 g (ringR 0) W3) := by rw [hq2, hq3, hq8]; exact HM0
  rw [← hq2, ← hq8, ← hq3]
  clear hq2 hq3 hq8
  go_loopw [10] (fun v wr => ∃ k : Nat, k ≤ 8 ∧ v = .int .i64 k ∧ Hid (RgM w q2 q3 q8 g (ringR k) wr)) (fun v _ => 8 - (intOf v).toNat)
  case atStart => exact ⟨0, Nat.zero_le _, rfl, HM0⟩
  case round =>
    clear HM0
    obtain ⟨k, hk, rfl, hP⟩ := hrel
    by_cases hlt : k < 8
    · have hlt64 : (k : Int) < 8 := by omega
      obtain ⟨y, hy⟩ : ∃ y, ringP[k]? = some y := ⟨_, List.getElem?_eq_getElem hlt⟩
      have hy25 : y < 25 := by
        have : ∀ y ∈ ringP, y < 25 := by decide
        exact this y (List.mem_of_getElem? hy)
      have c8 := hP.out.c8 k y hy
      obtain ⟨c30, c31⟩ := hP.out.c3
      have cy := hP.out.r.c y hy25
      have fy := hP.out.r.f y hy25
      have HN := Lib.hid (hP.out.put hy25 1)
      rw [ringR_next hy] at HN
      clear hy hP
      go_wp2_with fail
      go_roundw
      case rel => exact ⟨k + 1, by omega, by go_num, HN⟩
      case measure => simp [intOf]; omega
    · obtain rfl : k = 8 := by omega
      have h8 : ¬ ((8 : Nat) : Int) < 8 := by omega
      obtain ⟨c30, c31⟩ := hP.out.c3
      have cy := hP.out.r.c 7 (by omega)
      have fy := hP.out.r.f 7 (by omega)
      have HN := Lib.hid (hP.out.put (show 7 < 25 by omega) o)
      clear hP
      go_upto_region 8 with (fail)
      generalize wr.setCell ⟨g, 7, none⟩ (.int .i64 o) = wz at HN ⊢
      clear c30 c31 cy fy
      obtain ⟨c30, c31⟩ := HN.out.c3
      obtain ⟨c20, c21, f20, f21⟩ := HN.out.c2
      go_wp2_with fail
      have hs1 := setCell_same wz (.int .i64 5) c20
      have hs2 := (setCell_off wz (p := q2) (i := 0) (j := 1) (.int .i64 5) (by omega)).trans c21
      have hs3 := setCell_same _ (.slice (some ⟨g, 0, none⟩) 25 25) hs2
      have hs4 := (setCell_off (wz.setCell ⟨q2, 0, none⟩ (.int .i64 5)) (p := q2) (i := 1) (j := 0) (.slice (some ⟨g, 0, none⟩) 25 25) (by omega)).trans hs1
      have hl := HN.out.lt
      have hbz : Below w.heap.size w ((wz.setCell ⟨q2, 0, none⟩ (.int .i64 5)).setCell ⟨q2, 1, none⟩ (.slice (some ⟨g, 0, none⟩) 25 25)) := (HN.out.be.setCell (p := ⟨q2, 0, none⟩) hl.1 _).setCell (p := ⟨q2, 1, none⟩) hl.1 _
      have hrz := RowC.sep (RowC.sep HN.out.r (Sep.set wz q2 0 (.int .i64 5)) (fun e => hl.2.2.1 e.symm)) (Sep.set _ q2 1 (.slice (some ⟨g, 0, none⟩) 25 25)) (fun e => hl.2.2.1 e.symm)
      generalize (wz.setCell ⟨q2, 0, none⟩ (.int .i64 5)).setCell ⟨q2, 1, none⟩ (.slice (some ⟨g, 0, none⟩) 25 25) = we at hs3 hs4 hbz hrz ⊢
      refine bodyPost_ret (v := .agg #[.int .i64 5, .slice (some ⟨g, 0, none⟩) 25 25]) (results_mid rfl _ _ q2 0 [.int .i64 5, .slice (some ⟨g, 0, none⟩) 25 25] _ rfl (two_range hs4 hs3) Try.underlying24 rfl Try.infoMap) rfl ?_
      refine ⟨g, rfl, ⟨_, _, rfl, fun _ => ⟨g, 0, rfl, hrz.lt, fun j u hj => ?_⟩⟩, hbz⟩
      have hj25 : j < 25 := by have := (List.getElem?_eq_some_iff.1 hj).1; rw [ints_length] at this; exact this
      unfold ints at hj
      rw [List.getElem?_map, ringO_at o hj25] at hj
      rw [Nat.zero_add, hrz.c j hj25]
      exact hj
set_option maxRecDepth 20000 in
set_option maxHeartbeats 1000000 in
theorem Square_any (w : World) : Calls Try.prog 46 #[] w fun e w' => ∃ a b c, e = .returned (.agg #[.int .i64 2, .slice (some ⟨a, 0, none⟩) 4 4, .slice (some ⟨b, 0, none⟩) 4 4, .slice (some ⟨c, 0, none⟩) 4 4]) ∧ RS w'.heap.size w' (.slice (some ⟨a, 0, none⟩) 4 4) 4 (ints sqO) ∧ RS w'.heap.size w' (.slice (some ⟨b, 0, none⟩) 4 4) 4 (ints sqE) ∧ RS w'.heap.size w' (.slice (some ⟨c, 0, none⟩) 4 4) 4 (ints sqS) ∧ Below w.heap.size w w' := by
  go_enter Try.func46, Try.ntmps46
  go_wp2_with fail
  have hM : Hid (((((w.alloc (.cells #[.int .i64 2, .slice (some ⟨w.heap.size + 1, 0, none⟩) 4 4, .slice (some ⟨w.heap.size + 1 + 1, 0, none⟩) 4 4, .slice (some ⟨w.heap.size + 1 + 1 + 1, 0, none⟩) 4 4] 44)).alloc (.cells #[.int .i64 0, .int .i64 (-1), .int .i64 (-1), .int .i64 1] 3)).alloc (.cells #[.int .i64 3, .int .i64 0, .int .i64 2, .int .i64 0] 3)).alloc (.cells #[.int .i64 1, .int .i64 2, .int .i64 0, .int .i64 0] 3)).rangeAt w.heap.size 0 [.int .i64 2, .slice (some ⟨w.heap.size + 1, 0, none⟩) 4 4, .slice (some ⟨w.heap.size + 1 + 1, 0, none⟩) 4 4, .slice (some ⟨w.heap.size + 1 + 1 + 1, 0, none⟩) 4 4] ∧ RS ((((w.alloc (.cells #[.int .i64 2, .slice (some ⟨w.heap.size + 1, 0, none⟩) 4 4, .slice (some ⟨w.heap.size + 1 + 1, 0, none⟩) 4 4, .slice (some ⟨w.heap.size + 1 + 1 + 1, 0, none⟩) 4 4] 44)).alloc (.cells #[.int .i64 0, .int .i64 (-1), .int .i64 (-1), .int .i64 1] 3)).alloc (.cells #[.int .i64 3, .int .i64 0, .int .i64 2, .int .i64 0] 3)).alloc (.cells #[.int .i64 1, .int .i64 2, .int .i64 0, .int .i64 0] 3)).heap.size ((((w.alloc (.cells #[.int .i64 2, .slice (some ⟨w.heap.size + 1, 0, none⟩) 4 4, .slice (some ⟨w.heap.size + 1 + 1, 0, none⟩) 4 4, .slice (some ⟨w.heap.size + 1 + 1 + 1, 0, none⟩) 4 4] 44)).alloc (.cells #[.int .i64 0, .int .i64 (-1), .int .i64 (-1), .int .i64 1] 3)).alloc (.cells #[.int .i64 3, .int .i64 0, .int .i64 2, .int .i64 0] 3)).alloc (.cells #[.int .i64 1, .int .i64 2, .int .i64 0, .int .i64 0] 3)) (.slice (some ⟨w.heap.size + 1, 0, none⟩) 4 4) 4 (ints sqO) ∧ RS ((((w.alloc (.cells #[.int .i64 2, .slice (some ⟨w.heap.size + 1, 0, none⟩) 4 4, .slice (some ⟨w.heap.size + 1 + 1, 0, none⟩) 4 4, .slice (some ⟨w.heap.size + 1 + 1 + 1, 0, none⟩) 4 4] 44)).alloc (.cells #[.int .i64 0, .int .i64 (-1), .int .i64 (-1), .int .i64 1] 3)).alloc (.cells #[.int .i64 3, .int .i64 0, .int .i64 2, .int .i64 0] 3)).alloc (.cells #[.int .i64 1, .int .i64 2, .int .i64 0, .int .i64 0] 3)).heap.size ((((w.alloc (.cells #[.int .i64 2, .slice (some ⟨w.heap.size + 1, 0, none⟩) 4 4, .slice (some ⟨w.heap.size + 1 + 1, 0, none⟩) 4 4, .slice (some ⟨w.heap.size + 1 + 1 + 1, 0, none⟩) 4 4] 44)).alloc (.cells #[.int .i64 0, .int .i64 (-1), .int .i64 (-1), .int .i64 1] 3)).alloc (.cells #[.int .i64 3, .int .i64 0, .int .i64 2, .int .i64 0] 3)).alloc (.cells #[.int .i64 1, .int .i64 2, .int .i64 0, .int .i64 0] 3)) (.slice (some ⟨w.heap.size + 1 + 1, 0, none⟩) 4 4) 4 (ints sqE) ∧ RS ((((w.alloc (.cells #[.int .i64 2, .slice (some ⟨w.heap.size + 1, 0, none⟩) 4 4, .slice (some ⟨w.heap.size + 1 + 1, 0, none⟩) 4 4, .slice (some ⟨w.heap.size + 1 + 1 + 1, 0, none⟩) 4 4] 44)).alloc (.cells #[.int .i64 0, .int .i64 (-1), .int .i64 (-1), .int .i64 1] 3)).alloc (.cells #[.int .i64 3, .int .i64 0, .int .i64 2, .int .i64 0] 3)).alloc (.cells #[.int .i64 1, .int .i64 2, .int .i64 0, .int .i64 0] 3)).heap.size ((((w.alloc (.cells #[.int .i64 2, .slice (some ⟨w.heap.size + 1, 0, none⟩) 4 4, .slice (some ⟨w.heap.size + 1 + 1, 0, none⟩) 4 4, .slice (some ⟨w.heap.size + 1 + 1 + 1, 0, none⟩) 4 4] 44)).alloc (.cells #[.int .i64 0, .int .i64 (-1), .int .i64 (-1), .int .i64 1] 3)).alloc (.cells #[.int .i64 3, .int .i64 0, .int .i64 2, .int .i64 0] 3)).alloc (.cells #[.int .i64 1, .int .i64 2, .int .i64 0, .int .i64 0] 3)) (.slice (some ⟨w.heap.size + 1 + 1 + 1, 0, none⟩) 4 4) 4 (ints sqS) ∧ Below w.heap.size w ((((w.alloc (.cells #[.int .i64 2, .slice (some ⟨w.heap.size + 1, 0, none⟩) 4 4, .slice (some ⟨w.heap.size + 1 + 1, 0, none⟩) 4 4, .slice (some ⟨w.heap.size + 1 + 1 + 1, 0, none⟩) 4 4] 44)).alloc (.cells #[.int .i64 0, .int .i64 (-1), .int .i64 (-1), .int .i64 1] 3)).alloc (.cells #[.int .i64 3, .int .i64 0, .int .i64 2, .int .i64 0] 3)).alloc (.cells #[.int .i64 1, .int .i64 2, .int .i64 0, .int .i64 0] 3))) := Lib.hid (by
    generalize hW1 : w.alloc (.cells #[.int .i64 2, .slice (some ⟨w.heap.size + 1, 0, none⟩) 4 4, .slice (some ⟨w.heap.size + 1 + 1, 0, none⟩) 4 4, .slice (some ⟨w.heap.size + 1 + 1 + 1, 0, none⟩) 4 4] 44) = W1
    have h1 : W1.heap.size = w.heap.size + 1 := by rw [← hW1]; simp
    have b1 : Below w.heap.size w W1 := by rw [← hW1]; exact (Below.refl _ w).alloc (Nat.le_refl _) _
    have c0 : W1.cell? ⟨w.heap.size, 0, none⟩ = some (.int .i64 2) := by rw [← hW1]; simp [go_sem]
    have c1 : W1.cell? ⟨w.heap.size, 1, none⟩ = some (.slice (some ⟨w.heap.size + 1, 0, none⟩) 4 4) := by rw [← hW1]; simp [go_sem]
    have c2 : W1.cell? ⟨w.heap.size, 2, none⟩ = some (.slice (some ⟨w.heap.size + 1 + 1, 0, none⟩) 4 4) := by rw [← hW1]; simp [go_sem]
    have c3 : W1.cell? ⟨w.heap.size, 3, none⟩ = some (.slice (some ⟨w.heap.size + 1 + 1 + 1, 0, none⟩) 4 4) := by rw [← hW1]; simp [go_sem]
    clear hW1
    have r2 := rs_new (w := W1) (t := 3) (n := 4) (ints sqO) rfl
    have b2 : Below W1.heap.size W1 (W1.alloc (.cells (ints sqO).toArray 3)) := (Below.refl _ _).alloc (Nat.le_refl _) _
    have h2 : (W1.alloc (.cells (ints sqO).toArray 3)).heap.size = w.heap.size + 2 := by simp [h1]
    have e2 : W1.alloc (.cells #[.int .i64 0, .int .i64 (-1), .int .i64 (-1), .int .i64 1] 3) = W1.alloc (.cells (ints sqO).toArray 3) := rfl
    rw [e2]
    generalize W1.alloc (.cells (ints sqO).toArray 3) = W2 at r2 b2 h2 ⊢
    have r3 := rs_new (w := W2) (t := 3) (n := 4) (ints sqE) rfl
    have b3 : Below W2.heap.size W2 (W2.alloc (.cells (ints sqE).toArray 3)) := (Below.refl _ _).alloc (Nat.le_refl _) _
    have h3 : (W2.alloc (.cells (ints sqE).toArray 3)).heap.size = w.heap.size + 3 := by simp [h2]
    have e3 : W2.alloc (.cells #[.int .i64 3, .int .i64 0, .int .i64 2, .int .i64 0] 3) = W2.alloc (.cells (ints sqE).toArray 3) := rfl
    rw [e3]
    generalize W2.alloc (.cells (ints sqE).toArray 3) = W3 at r3 b3 h3 ⊢
    have r4 := rs_new (w := W3) (t := 3) (n := 4) (ints sqS) rfl
    have b4 : Below W3.heap.size W3 (W3.alloc (.cells (ints sqS).toArray 3)) := (Below.refl _ _).alloc (Nat.le_refl _) _
    have e4 : W3.alloc (.cells #[.int .i64 1, .int .i64 2, .int .i64 0, .int .i64 0] 3) = W3.alloc (.cells (ints sqS).toArray 3) := rfl
    rw [e4]
    rw [h1] at r2
    rw [h2] at r3
    rw [h3] at r4
    have bb := (b2.trans (b3.mono b2.size)).trans (b4.mono (Nat.le_trans b2.size b3.size))
    exact ⟨four_range (bb.on c0) (bb.on c1) (bb.on c2) (bb.on c3), RS.on (RS.on r2 b3) b4, RS.on r3 b4, r4, b1.trans (bb.mono b1.size)⟩)
  generalize (((w.alloc (.cells #[.int .i64 2, .slice (some ⟨w.heap.size + 1, 0, none⟩) 4 4, .slice (some ⟨w.heap.size + 1 + 1, 0, none⟩) 4 4, .slice (some ⟨w.heap.size + 1 + 1 + 1, 0, none⟩) 4 4] 44)).alloc (.cells #[.int .i64 0, .int .i64 (-1), .int .i64 (-1), .int .i64 1] 3)).alloc (.cells #[.int .i64 3, .int .i64 0, .int .i64 2, .int .i64 0] 3)).alloc (.cells #[.int .i64 1, .int .i64 2, .int .i64 0, .int .i64 0] 3) = W at hM ⊢
  refine bodyPost_ret (v := .agg #[.int .i64 2, .slice (some ⟨w.heap.size + 1, 0, none⟩) 4 4, .slice (some ⟨w.heap.size + 1 + 1, 0, none⟩) 4 4, .slice (some ⟨w.heap.size + 1 + 1 + 1, 0, none⟩) 4 4]) (results_mid rfl _ _ w.heap.size 0 [.int .i64 2, .slice (some ⟨w.heap.size + 1, 0, none⟩) 4 4, .slice (some ⟨w.heap.size + 1 + 1, 0, none⟩) 4 4, .slice (some ⟨w.heap.size + 1 + 1 + 1, 0, none⟩) 4 4] _ rfl hM.out.1 Try.underlying44 rfl infoLand4) rfl ?_
  exact ⟨_, _, _, rfl, hM.out.2.1, hM.out.2.2.1, hM.out.2.2.2.1, hM.out.2.2.2.2⟩
end Go.Proofs.Ytkjcnkkmhkcddaa
/-
  What the functions answer at the chapter's examples, as awake calls them.
-/
namespace Go.Proofs.Ytkjcnkkmhkcddaa
open Go.RowKit Go.Shelf
open Lim

theorem c_aro1 {ov : Value} {w : World} (hv : RS w.heap.size w ov 25 (ints (ringO 1))) : Calls Try.prog 32 #[.agg #[.int .i64 5, ov]] w fun e w' => (∃ v, e = .returned (.tuple #[v, .int .i64 0]) ∧ RS w'.heap.size w' v 3 (ints [-1, 0, 1])) ∧ Below w.heap.size w w' := by
  refine (Around_any (wd := 5) (os := ringO 1) (by show 25 ≤ 100000; omega) (Nat.le_refl _) hv).mono ?_
  rintro e w' ⟨hb, ⟨he, v, r, k, rfl, hr, hk, A, hA, ho⟩ | ⟨he, -⟩⟩
  · obtain ⟨h3, hL⟩ := aro1 hr hk hA
    rw [h3] at ho hL
    have ho' : w'.ownsRow w.heap.size 3 1 v 3 (ints [-1, 0, 1]) := by rw [← hL]; exact ho
    exact ⟨⟨v, rfl, RS.of_owns ho'⟩, hb⟩
  · exact absurd err1 he
theorem c_dep1 {ov : Value} {w : World} (hv : RS w.heap.size w ov 25 (ints (ringO 1))) : Calls Try.prog 31 #[.agg #[.int .i64 5, ov]] w fun e w' => (∃ v, e = .returned (.tuple #[v, .int .i64 0]) ∧ RS w'.heap.size w' v 3 (ints [0, 1, 2])) ∧ Below w.heap.size w w' := by
  refine (Depths_any (wd := 5) (os := ringO 1) (by show 25 ≤ 100000; omega) (Nat.le_refl _) hv).mono ?_
  rintro e w' ⟨hb, ⟨he, v, r, k, rfl, hr, hk, ho⟩ | ⟨he, -⟩⟩
  · obtain ⟨h3, hL⟩ := dep1 hr hk
    rw [h3] at ho hL
    have ho' : w'.ownsRow w.heap.size 3 1 v 3 (ints [0, 1, 2]) := by rw [← hL]; exact ho
    exact ⟨⟨v, rfl, RS.of_owns ho'⟩, hb⟩
  · exact absurd err1 he
theorem c_aro2 {ov : Value} {w : World} (hv : RS w.heap.size w ov 25 (ints (ringO 2))) : Calls Try.prog 32 #[.agg #[.int .i64 5, ov]] w fun e w' => (∃ v, e = .returned (.tuple #[v, .int .i64 0]) ∧ RS w'.heap.size w' v 4 (ints [-1, 0, 0, 0])) ∧ Below w.heap.size w w' := by
  refine (Around_any (wd := 5) (os := ringO 2) (by show 25 ≤ 100000; omega) (Nat.le_refl _) hv).mono ?_
  rintro e w' ⟨hb, ⟨he, v, r, k, rfl, hr, hk, A, hA, ho⟩ | ⟨he, -⟩⟩
  · obtain ⟨h3, hL⟩ := aro2 hr hk hA
    rw [h3] at ho hL
    have ho' : w'.ownsRow w.heap.size 3 1 v 4 (ints [-1, 0, 0, 0]) := by rw [← hL]; exact ho
    exact ⟨⟨v, rfl, RS.of_owns ho'⟩, hb⟩
  · exact absurd err2 he
theorem c_dep2 {ov : Value} {w : World} (hv : RS w.heap.size w ov 25 (ints (ringO 2))) : Calls Try.prog 31 #[.agg #[.int .i64 5, ov]] w fun e w' => (∃ v, e = .returned (.tuple #[v, .int .i64 0]) ∧ RS w'.heap.size w' v 4 (ints [0, 1, 1, 1])) ∧ Below w.heap.size w w' := by
  refine (Depths_any (wd := 5) (os := ringO 2) (by show 25 ≤ 100000; omega) (Nat.le_refl _) hv).mono ?_
  rintro e w' ⟨hb, ⟨he, v, r, k, rfl, hr, hk, ho⟩ | ⟨he, -⟩⟩
  · obtain ⟨h3, hL⟩ := dep2 hr hk
    rw [h3] at ho hL
    have ho' : w'.ownsRow w.heap.size 3 1 v 4 (ints [0, 1, 1, 1]) := by rw [← hL]; exact ho
    exact ⟨⟨v, rfl, RS.of_owns ho'⟩, hb⟩
  · exact absurd err2 he
theorem c_clr1 {ov : Value} {w : World} (hv : RS w.heap.size w ov 25 (ints (ringO 1))) : Calls Try.prog 18 #[.agg #[.int .i64 5, ov]] w fun e w' => (∃ g c pv, e = .returned (.tuple #[.agg #[.int .i64 5, .slice (some ⟨g, 0, none⟩) 25 c], pv, .int .i64 0]) ∧ RS w'.heap.size w' (.slice (some ⟨g, 0, none⟩) 25 c) 25 (ints (List.replicate 25 0)) ∧ RS w'.heap.size w' pv 8 (ints [6, 7, 8, 11, 13, 16, 17, 18])) ∧ Below w.heap.size w w' := by
  refine (Clear_any (wd := 5) (os := ringO 1) (by show 25 ≤ 100000; omega) (Nat.le_refl _) hv).mono ?_
  rintro e w' ⟨hb, ⟨he, -⟩ | ⟨he, r, k, T, O, v, pv, hr, hk, hT, hO, rfl, ho, hp⟩⟩
  · exact absurd err1 he
  · obtain ⟨h1, h2⟩ := clr1 hr hk hT hO
    have ho' : w'.ownsRow w.heap.size 3 1 v 25 (ints (List.replicate 25 0)) := by rw [← h1]; exact ho
    have hp' : w'.ownsRow w.heap.size 3 1 pv (plotL O (fun p => (ringO 1).getD p 0) 25).length (ints ((plotL O (fun p => (ringO 1).getD p 0) 25).map Int.ofNat)) := hp
    rw [h2] at hp'
    rcases ho'.2 with ⟨-, h0⟩ | ⟨g, cap, cur, rfl, -⟩
    · exact absurd h0 (by decide)
    · exact ⟨⟨g, cap, pv, rfl, RS.of_owns ho', RS.of_owns hp'⟩, hb⟩
theorem c_giv1 {ov : Value} {w : World} (hv : RS w.heap.size w ov 25 (ints (ringO 1))) : Calls Try.prog 15 #[.agg #[.int .i64 5, ov], .int .i64 2] w fun e w' => (∃ g c, e = .returned (.tuple #[.agg #[.int .i64 5, .slice (some ⟨g, 0, none⟩) 25 c], .int .i64 0]) ∧ w'.cell? ⟨g, 12, none⟩ = some (.int .i64 1)) ∧ Below w.heap.size w w' := by
  refine (Give_any (wd := 5) (os := ringO 1) 2 (by show 25 ≤ 100000; omega) (Nat.le_refl _) hv).mono ?_
  rintro e w' ⟨hb, ⟨he, -⟩ | ⟨he, r, k, hr, hk, h⟩⟩
  · exact absurd err1 he
  · have hk3 := (dep1 hr hk).1
    rcases h with ⟨h, -⟩ | ⟨-, x, hx, ⟨hx1, -⟩ | ⟨hx1, v, O, rfl, hO, ho⟩⟩
    · rw [hk3] at h; cases h
    · have := (giv1 (O := fun p => if p = 12 then 1 else (ringO 1).getD p 0) hr hk hx)
      exfalso
      obtain ⟨rfl, -, -, -, h⟩ := closed_map (ring_ok 1) creg1 ctab1 hr hk
      have h2 := h 2 1 _ (by decide) rfl hx
      rw [hx1] at h2; cases h2
    · obtain ⟨h1, h2⟩ := giv1 hr hk hx hO
      rcases ho.2 with ⟨-, h0⟩ | ⟨g, cap, cur, rfl, -⟩
      · exact absurd h0 (by decide)
      · have hc := ho.cells (g := g) rfl 12 (.int .i64 1) (by unfold ints; rw [List.getElem?_map, List.getElem?_map, List.getElem?_range (by show 12 < 25; omega)]; simp [h2])
        rw [Addr.add_lit, Nat.zero_add] at hc
        exact ⟨⟨g, cap, rfl, hc⟩, hb⟩
theorem c_lea2 {ov wv : Value} {w : World} (hv : RS w.heap.size w ov 25 (ints (ringO 2))) (hw : RS w.heap.size w wv 3 (ints [12, 7, 2])) : Calls Try.prog 37 #[.agg #[.int .i64 5, ov], .int .i64 3, .int .i64 1, wv] w fun e w' => e = .returned (.tuple #[.bool true, .int .i64 0]) ∧ Below w.heap.size w w' := by
  refine (Leads_any (wd := 5) (os := ringO 2) (xs := [12, 7, 2]) 3 1 (by show 25 ≤ 100000; omega) (by decide) (Nat.le_refl _) hv hw).mono ?_
  rintro e w' ⟨hb, ⟨he, -⟩ | ⟨he, r, k, hr, hk, h⟩⟩
  · exact absurd err2 he
  · obtain ⟨h4, hL⟩ := lea2 hr hk
    rw [h4] at h
    rcases h with ⟨h, -⟩ | ⟨-, h, -⟩ | ⟨-, -, z, rfl, hz⟩
    · exact absurd (by decide) h
    · exact absurd (by decide) h
    · rw [hz.2 hL]; exact ⟨rfl, hb⟩
theorem c_div {a b c : Nat} {w : World} (ha : RS w.heap.size w (.slice (some ⟨a, 0, none⟩) 4 4) 4 (ints sqO)) (hb : RS w.heap.size w (.slice (some ⟨b, 0, none⟩) 4 4) 4 (ints sqE)) (hc : RS w.heap.size w (.slice (some ⟨c, 0, none⟩) 4 4) 4 (ints sqS)) : Calls Try.prog 24 #[.agg #[.int .i64 2, .slice (some ⟨a, 0, none⟩) 4 4, .slice (some ⟨b, 0, none⟩) 4 4, .slice (some ⟨c, 0, none⟩) 4 4]] w fun e w' => (∃ v, e = .returned (.tuple #[v, .int .i64 3, .int .i64 0]) ∧ RS w'.heap.size w' v 4 (ints [0, 0, 1, 1])) ∧ Below w.heap.size w w' := by
  refine (Divide_any (wd := 2) (os := sqO) (es := sqE) (ss := sqS) (by decide) (Nat.le_refl _) ha hb hc).mono ?_
  rintro e w' ⟨hb, ⟨he, -⟩ | ⟨-, M, v, c, g, rfl, ho, hK, hF, hv, hcu⟩⟩
  · exact absurd errSq he
  · obtain ⟨h1, h2⟩ := divSq hK hF hv hcu
    have ho' : w'.ownsRow w.heap.size 3 1 v 4 (ints [0, 0, 1, 1]) := by rw [← h1]; exact ho
    rw [h2]
    exact ⟨⟨v, rfl, RS.of_owns ho'⟩, hb⟩
theorem c_pro {a b c : Nat} {wv : Value} {w : World} (ha : RS w.heap.size w (.slice (some ⟨a, 0, none⟩) 4 4) 4 (ints sqO)) (hb : RS w.heap.size w (.slice (some ⟨b, 0, none⟩) 4 4) 4 (ints sqE)) (hc : RS w.heap.size w (.slice (some ⟨c, 0, none⟩) 4 4) 4 (ints sqS)) (hw : WkR w.heap.size w wv sqW) : Calls Try.prog 43 #[.agg #[.int .i64 2, .slice (some ⟨a, 0, none⟩) 4 4, .slice (some ⟨b, 0, none⟩) 4 4, .slice (some ⟨c, 0, none⟩) 4 4], wv] w fun e w' => e = .returned (.tuple #[.int .i64 3, .int .i64 0]) ∧ Below w.heap.size w w' := by
  refine (Proves_any (wd := 2) (os := sqO) (es := sqE) (ss := sqS) (ws := sqW) (by decide) (by decide) (Nat.le_refl _) ha hb hc hw (by decide)).mono ?_
  rintro e w' ⟨hb, ⟨he, -⟩ | ⟨-, ⟨he, -⟩ | ⟨-, ⟨hg, rfl⟩ | ⟨hg, -⟩⟩⟩⟩
  · exact absurd errSq he
  · exact absurd proSq.1 he
  · exact ⟨by rw [proSq.2.2], hb⟩
  · exact absurd proSq.2.1 hg
theorem c_eq {v v2 : Value} {n : Nat} {l : List Int} {B1 B2 : Nat} {w : World} (hn : l.length ≤ 1000) (hl : l.length = n) (hv : RS B1 w v n (ints l)) (h2 : RS B2 w v2 n (ints l)) : Calls Try.prog 17 #[v, v2] w fun e w' => e = .returned (.bool true) ∧ Below w.heap.size w w' := by
  subst hl
  have := equal_ints hn hv h2
  rw [decide_eq_true (rfl : l = l)] at this
  exact this
/-- two walks that are laid anew -/
theorem wk_new (w : World) (t1 t2 : TypeId) : WkR (((w.alloc (.cells #[.int .i64 0, .int .i64 1, .int .i64 3] t1)).alloc (.cells #[.int .i64 0, .int .i64 2, .int .i64 3] t1)).alloc (.cells #[.slice (some ⟨w.heap.size, 0, none⟩) 3 3, .int .i64 2, .slice (some ⟨w.heap.size + 1, 0, none⟩) 3 3, .int .i64 1] t2)).heap.size (((w.alloc (.cells #[.int .i64 0, .int .i64 1, .int .i64 3] t1)).alloc (.cells #[.int .i64 0, .int .i64 2, .int .i64 3] t1)).alloc (.cells #[.slice (some ⟨w.heap.size, 0, none⟩) 3 3, .int .i64 2, .slice (some ⟨w.heap.size + 1, 0, none⟩) 3 3, .int .i64 1] t2)) (.slice (some ⟨w.heap.size + 1 + 1, 0, none⟩) 2 2) sqW := by
  refine ⟨_, _, rfl, fun _ => ⟨_, _, rfl, by simp, fun k hk => ?_⟩⟩
  have hk : k < 2 := hk
  rcases (by omega : k = 0 ∨ k = 1) with rfl | rfl
  · refine ⟨some ⟨w.heap.size, 0, none⟩, 3, by simp [go_sem, sqW], by simp [go_sem, sqW], ?_, by decide⟩
    exact RS.on (RS.on (rs_new (w := w) (n := 3) (ints [0, 1, 3]) rfl) ((Below.refl _ _).alloc (Nat.le_refl _) _)) ((Below.refl _ _).alloc (Nat.le_refl _) _)
  · refine ⟨some ⟨w.heap.size + 1, 0, none⟩, 3, by simp [go_sem, sqW], by simp [go_sem, sqW], ?_, by decide⟩
    have h := rs_new (w := w.alloc (.cells #[.int .i64 0, .int .i64 1, .int .i64 3] t1)) (n := 3) (t := t1) (ints [0, 2, 3]) rfl
    have e : (w.alloc (.cells #[.int .i64 0, .int .i64 1, .int .i64 3] t1)).heap.size = w.heap.size + 1 := by simp
    rw [e] at h
    exact RS.on h ((Below.refl _ _).alloc (Nat.le_refl _) _)
theorem RS.one {B : Nat} {w : World} {v : Value} {n : Nat} {xs : List Value} (h : RS B w v n xs) : v.oneCell' = true := by obtain ⟨a, c, rfl, -⟩ := h; rfl
end Go.Proofs.Ytkjcnkkmhkcddaa
