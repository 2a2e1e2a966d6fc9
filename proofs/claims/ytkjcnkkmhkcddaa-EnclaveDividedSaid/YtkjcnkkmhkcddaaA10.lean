/-
  Parts of the proof, in the order in which they build: EvU.
-/
import Derived.Test.YtkjcnkkmhkcddaaRows
import Derived.Maps.Own
import Derived.Maps.OwnSet
import Derived.Maps.Views
import Derived.DeepKeys4
import Derived.KernelRfl
import Derived.Test.YtkjcnkkmhkcddaaA1
set_option linter.unusedVariables false
set_option linter.unusedSimpArgs false
namespace Go.Proofs.Ytkjcnkkmhkcddaa
open Go Go.RowKit Go.ChangeMaps Go.WideShapes
open Go.WideElems (rg)
namespace Lim

theorem suc_of_lt {a n : Nat} (h : a < n) : ∃ d, n = d + 1 := ⟨n - 1, by omega⟩
theorem laidOutE : laidOutB Try.prog = true := by kernel_rfl
theorem rowSide : (120 : TypeId) < Try.prog.types.size := of_decide_eq_true (by kernel_rfl)
theorem wideSide : (match Try.prog.underlying 120 with | some (.array _ _) | some (.struct _) => true | _ => false) = true := by rw [Try.underlying120]
set_option maxRecDepth 100000 in
theorem keySide : Maps.Keyed Try.prog 120 := Maps.Keyed.of_law (deep_law_laid laidOutE (m := 2) (by omega) rowSide (by kernel_rfl) wideSide)
theorem cellsSide : Try.prog.cellsOf 120 = 2 := by kernel_rfl
theorem cellsInt : Try.prog.cellsOf 3 = 1 := by kernel_rfl
set_option maxRecDepth 100000 in
theorem typeSide : Try.prog.keyType 120 = true := by kernel_rfl
/-- a side as a key -/
def sideV (x y : Nat) : Value := .agg #[.int .i64 x, .int .i64 y]
def sideL (x y : Nat) : Lit := .string (keyBytes [.int .i64 x, .int .i64 y])
theorem keyOf_side {x y : Nat} (hx : x < 1000) (hy : y < 1000) : keyOf Try.prog 120 (sideV x y) = some (sideL x y) := by
  have h1 : (Lit.int .i64 (x : Int)).wf = true := WalkArith.wf_i64 ⟨by omega, by omega⟩
  have h2 : (Lit.int .i64 (y : Int)).wf = true := WalkArith.wf_i64 ⟨by omega, by omega⟩
  have hf : (sideV x y).formed Try.prog 120 = true := by simp [sideV, Value.formed, Try.underlying120, cellsSide]
  have hk := typeSide
  obtain ⟨d, hd⟩ : ∃ d, Try.prog.types.size = d + 1 := suc_of_lt rowSide
  have hl : Try.prog.keyLits (Try.prog.types.size + 1) 120 (sideV x y).cells.toList = some [.int .i64 x, .int .i64 y] := by
    rw [hd]
    simp [Program.keyLits, Try.underlying120, sideV, Value.cells, cellsSide, cellsInt, Try.underlying3, h1, h2]
  unfold keyOf
  rw [Try.underlying120]
  simp only [hk, hf, hl, Bool.and_self, if_true, Option.map_some]
  rfl
theorem sideL_inj {x y x' y' : Nat} (hx : x < 1000) (hy : y < 1000) (hx' : x' < 1000) (hy' : y' < 1000) : sideL x y = sideL x' y' ↔ x = x' ∧ y = y' := by
  refine ⟨fun h => ?_, fun h => by rw [h.1, h.2]⟩
  have := keySide.inj (keyOf_side hx hy) (h ▸ keyOf_side hx' hy')
  simp only [sideV, Value.agg.injEq, Array.mk.injEq, List.cons.injEq, Value.int.injEq, true_and, and_true] at this
  omega
/-- block b is a map of at most n sides that has F -/
def MapS (w : World) (b n : Nat) (F : Nat → Nat → Option Int) : Prop := ∃ D : DataW Unit, w.ownsMap Try.prog 120 (plainElem Try.prog 3) b n D ∧
  ∀ x y : Nat, x < 1000 → y < 1000 → Maps.has D (sideL x y) = (F x y).isSome ∧ D.atKey (sideL x y) (.lit (.int .i64 0)) = .lit (.int .i64 ((F x y).getD 0))
theorem MapS.made (w : World) : MapS (w.alloc (.map #[] 0)) w.heap.size 0 (fun _ _ => none) := ⟨.map [], World.ownsMap_made _ _ _ _, fun x y _ _ => ⟨rfl, by simp [DataW.atKey]⟩⟩
theorem MapS.more {w : World} {b n : Nat} {F : Nat → Nat → Option Int} (h : MapS w b n F) {m : Nat} (hm : n ≤ m) : MapS w b m F := ⟨h.choose, h.choose_spec.1.mono hm, h.choose_spec.2⟩
theorem MapS.kept {w w' : World} {b n : Nat} {F : Nat → Nat → Option Int} {row : Option Nat} (h : MapS w b n F) (hg : w.grownBy w' row) (hne : some b ≠ row) : MapS w' b n F := ⟨h.choose, h.choose_spec.1.kept hg hne, h.choose_spec.2⟩
theorem MapS.lt {w : World} {b n : Nat} {F : Nat → Nat → Option Int} (h : MapS w b n F) : b < w.heap.size := h.choose_spec.1.lt
theorem MapS.same {w w' : World} {b n : Nat} {F : Nat → Nat → Option Int} (h : MapS w b n F) (hs : w'.heap[b]? = w.heap[b]?) : MapS w' b n F := by
  obtain ⟨D, ⟨es, clock, hb, r⟩, h2⟩ := h
  exact ⟨D, ⟨es, clock, hs.trans hb, r⟩, h2⟩
theorem MapS.congr {w : World} {b n : Nat} {F G : Nat → Nat → Option Int} (h : MapS w b n F) (hg : ∀ x y, x < 1000 → y < 1000 → F x y = G x y) : MapS w b n G := by
  obtain ⟨D, h1, h2⟩ := h
  exact ⟨D, h1, fun x y hx hy => by rw [← hg x y hx hy]; exact h2 x y hx hy⟩
theorem MapS.lookup {w : World} {b n : Nat} {F : Nat → Nat → Option Int} (h : MapS w b n F) {x y : Nat} (hx : x < 1000) (hy : y < 1000) :
    (Instr.lookup 106 (.map (some b)) (.agg #[.int .i64 x, .int .i64 y]) false).run Try.prog w = .ok (.int .i64 ((F x y).getD 0)) w := by
  obtain ⟨D, hD, hF⟩ := h
  obtain ⟨v, hrun, hat, _⟩ := hD.lookup_int keySide Try.underlying106 Try.underlying3 (by kernel_rfl) (keyOf_side hx hy)
  rw [(hF x y hx hy).2] at hat
  simp at hat
  rw [hat]
  exact hrun
theorem ownsMap_sharp {w : World} {b m n : Nat} {k : TypeId} {R : Value → Option (DataW Unit × List MemPlace)} {D : DataW Unit} (h : w.ownsMap Try.prog k R b m D) (hs : Maps.size D ≤ n) : w.ownsMap Try.prog k R b n D := by
  obtain ⟨es, clock, hb, F, hm, rfl⟩ := h
  refine ⟨es, clock, hb, F, ?_, rfl⟩
  have e1 : Maps.size (DataW.map ((es.toList.map (rg Try.prog k R)).foldr DataW.insert [])) = es.size := by simp [Maps.size, length_sorted]
  omega
/-- a side that is there already: the map grows no larger -/
theorem MapS.over {w : World} {b n : Nat} {F : Nat → Nat → Option Int} (h : MapS w b n F) (hn : n < maxLen) {x y : Nat} (hx : x < 1000) (hy : y < 1000) {v : Int} (hv : (Lit.int .i64 v).wf = true) :
    ∃ w', (Instr.mapUpdate 106 (.map (some b)) (.agg #[.int .i64 x, .int .i64 y]) (.int .i64 v)).run Try.prog w = .ok () w' ∧ MapS w' b (n + if (F x y).isSome then 0 else 1) (fun a c => if a = x ∧ c = y then some v else F a c) ∧ w.grownBy w' (some b) := by
  obtain ⟨D, hD, hF⟩ := h
  obtain ⟨w', hrun, hD', hg⟩ := hD.update keySide Try.underlying106 hn (keyOf_side hx hy) (plainElem_int Try.underlying3 hv)
  refine ⟨w', hrun, ⟨_, ownsMap_sharp hD' ?_, fun a c ha hc => ?_⟩, hg⟩
  · rw [Go.Maps.size_put (hD.tidy keySide), (hF x y hx hy).1]
    have := hD.size_le
    split <;> omega
  by_cases e : a = x ∧ c = y
  · obtain ⟨rfl, rfl⟩ := e
    rw [Go.Maps.atKey_put_same (k := sideL a c) hD.isMap trivial, Go.Maps.has_put_same (k := sideL a c) hD.isMap trivial]; simp
  · have e' : sideL a c ≠ sideL x y := fun h => e ((sideL_inj ha hc hx hy).mp h)
    rw [Go.Maps.atKey_put_other (by simpa using e'), Go.Maps.has_put_other (by simpa using e'), (hF a c ha hc).1, (hF a c ha hc).2]; simp [e]
theorem MapS.update {w : World} {b n : Nat} {F : Nat → Nat → Option Int} (h : MapS w b n F) (hn : n < maxLen) {x y : Nat} (hx : x < 1000) (hy : y < 1000) {v : Int} (hv : (Lit.int .i64 v).wf = true) :
    ∃ w', (Instr.mapUpdate 106 (.map (some b)) (.agg #[.int .i64 x, .int .i64 y]) (.int .i64 v)).run Try.prog w = .ok () w' ∧ MapS w' b (n + 1) (fun a c => if a = x ∧ c = y then some v else F a c) ∧ w.grownBy w' (some b) := by
  obtain ⟨w', h1, h2, h3⟩ := h.over hn hx hy hv
  exact ⟨w', h1, h2.more (by split <;> omega), h3⟩
end Lim
end Go.Proofs.Ytkjcnkkmhkcddaa
