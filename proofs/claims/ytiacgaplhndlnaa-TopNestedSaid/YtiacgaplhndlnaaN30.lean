/-
  Parts of the proof, in the order in which they build: CoM.
-/
import Derived.Test.YtiacgaplhndlnaaRows
import Derived.Maps.Own
import Derived.Maps.OwnSet
import Derived.Maps.Views
import Derived.DeepKeys4
import Derived.KernelRfl
import Derived.Test.YtiacgaplhndlnaaN2
set_option linter.unusedVariables false
set_option linter.unusedSimpArgs false
namespace Go.Proofs.Ytiacgaplhndlnaa
open Go Go.RowKit Go.ChangeMaps Go.WideShapes
open Go.WideElems (rg)
namespace Lim

theorem succ_of_lt {a n : Nat} (h : a < n) : ∃ d, n = d + 1 := ⟨n - 1, by omega⟩
theorem laidOutT : laidOutB Try.prog = true := by kernel_rfl
theorem rowStr : (38 : TypeId) < Try.prog.types.size := of_decide_eq_true (by kernel_rfl)
theorem wideStr : (match Try.prog.underlying 38 with | some (.array _ _) | some (.struct _) => true | _ => false) = true := by rw [Try.underlying38]
set_option maxRecDepth 100000 in
theorem keyStr : Maps.Keyed Try.prog 38 := Maps.Keyed.of_law (deep_law_laid laidOutT (m := 2) (by omega) rowStr (by kernel_rfl) wideStr)
theorem cellsStr : Try.prog.cellsOf 38 = 2 := by kernel_rfl
theorem cellsIntT : Try.prog.cellsOf 3 = 1 := by kernel_rfl
set_option maxRecDepth 100000 in
theorem typeStr : Try.prog.keyType 38 = true := by kernel_rfl
/-- a strike as a key -/
def strV (x y : Nat) : Value := .agg #[.int .i64 x, .int .i64 y]
def strL (x y : Nat) : Lit := .string (keyBytes [.int .i64 x, .int .i64 y])
theorem keyOf_str {x y : Nat} (hx : x < 1000) (hy : y < 1000) : keyOf Try.prog 38 (strV x y) = some (strL x y) := by
  have h1 : (Lit.int .i64 (x : Int)).wf = true := WalkArith.wf_i64 ⟨by omega, by omega⟩
  have h2 : (Lit.int .i64 (y : Int)).wf = true := WalkArith.wf_i64 ⟨by omega, by omega⟩
  have hf : (strV x y).formed Try.prog 38 = true := by simp [strV, Value.formed, Try.underlying38, cellsStr]
  have hk := typeStr
  obtain ⟨d, hd⟩ : ∃ d, Try.prog.types.size = d + 1 := succ_of_lt rowStr
  have hl : Try.prog.keyLits (Try.prog.types.size + 1) 38 (strV x y).cells.toList = some [.int .i64 x, .int .i64 y] := by
    rw [hd]
    simp [Program.keyLits, Try.underlying38, strV, Value.cells, cellsStr, cellsIntT, Try.underlying3, h1, h2]
  unfold keyOf
  rw [Try.underlying38]
  simp only [hk, hf, hl, Bool.and_self, if_true, Option.map_some]
  rfl
theorem strL_inj {x y x' y' : Nat} (hx : x < 1000) (hy : y < 1000) (hx' : x' < 1000) (hy' : y' < 1000) : strL x y = strL x' y' ↔ x = x' ∧ y = y' := by
  refine ⟨fun h => ?_, fun h => by rw [h.1, h.2]⟩
  have := keyStr.inj (keyOf_str hx hy) (h ▸ keyOf_str hx' hy')
  simp only [strV, Value.agg.injEq, Array.mk.injEq, List.cons.injEq, Value.int.injEq, true_and, and_true] at this
  omega
theorem bool_inv {P : Program} {e : TypeId} (he : P.underlying e = some .bool) {v : Value} {z : DataW Unit × List MemPlace} (h : plainElem P e v = some z) : ∃ a, v = .bool a ∧ z = (.lit (.bool a), []) := by
  unfold plainElem at h
  rw [he] at h
  cases v <;> simp at h
  exact ⟨_, rfl, h.symm⟩
/-- block b is a map of at most n strikes that marks those of F -/
def MapT (w : World) (b n : Nat) (F : Nat → Nat → Bool) : Prop := ∃ D : DataW Unit, w.ownsMap Try.prog 38 (plainElem Try.prog 4) b n D ∧
  ∀ x y : Nat, x < 1000 → y < 1000 → D.atKey (strL x y) (.lit (.bool false)) = .lit (.bool (F x y))
theorem MapT.made (w : World) : MapT (w.alloc (.map #[] 0)) w.heap.size 0 (fun _ _ => false) := ⟨.map [], World.ownsMap_made _ _ _ _, fun x y _ _ => by simp [DataW.atKey]⟩
theorem MapT.kept {w w' : World} {b n : Nat} {F : Nat → Nat → Bool} {row : Option Nat} (h : MapT w b n F) (hg : w.grownBy w' row) (hne : some b ≠ row) : MapT w' b n F := ⟨h.choose, h.choose_spec.1.kept hg hne, h.choose_spec.2⟩
theorem MapT.lt {w : World} {b n : Nat} {F : Nat → Nat → Bool} (h : MapT w b n F) : b < w.heap.size := h.choose_spec.1.lt
theorem MapT.same {w w' : World} {b n : Nat} {F : Nat → Nat → Bool} (h : MapT w b n F) (hs : w'.heap[b]? = w.heap[b]?) : MapT w' b n F := by
  obtain ⟨D, ⟨es, clock, hb, r⟩, h2⟩ := h
  exact ⟨D, ⟨es, clock, hs.trans hb, r⟩, h2⟩
theorem MapT.lookup {w : World} {b n : Nat} {F : Nat → Nat → Bool} (h : MapT w b n F) {x y : Nat} (hx : x < 1000) (hy : y < 1000) :
    (Instr.lookup 217 (.map (some b)) (.agg #[.int .i64 x, .int .i64 y]) false).run Try.prog w = .ok (.bool (F x y)) w := by
  obtain ⟨D, hD, hF⟩ := h
  obtain ⟨v, ps, hrun, hat⟩ := hD.lookup keyStr Try.underlying217 (z := .bool false) (by kernel_rfl) (plainElem_bool Try.underlying4 false) (keyOf_str hx hy)
  obtain ⟨a, rfl, e⟩ := bool_inv Try.underlying4 hat
  rw [hF x y hx hy] at e
  simp at e
  rw [e.1]
  exact hrun
theorem MapT.update {w : World} {b n : Nat} {F : Nat → Nat → Bool} (h : MapT w b n F) (hn : n < maxLen) {x y : Nat} (hx : x < 1000) (hy : y < 1000) {v : Bool} :
    ∃ w', (Instr.mapUpdate 217 (.map (some b)) (.agg #[.int .i64 x, .int .i64 y]) (.bool v)).run Try.prog w = .ok () w' ∧ MapT w' b (n + 1) (fun a c => if a = x ∧ c = y then v else F a c) ∧ w.grownBy w' (some b) := by
  obtain ⟨D, hD, hF⟩ := h
  obtain ⟨w', hrun, hD', hg⟩ := hD.update keyStr Try.underlying217 hn (keyOf_str hx hy) (plainElem_bool Try.underlying4 v)
  refine ⟨w', hrun, ⟨_, hD', fun a c ha hc => ?_⟩, hg⟩
  by_cases e : a = x ∧ c = y
  · obtain ⟨rfl, rfl⟩ := e
    rw [Go.Maps.atKey_put_same (k := strL a c) hD.isMap trivial]; simp
  · have e' : strL a c ≠ strL x y := fun h => e ((strL_inj ha hc hx hy).mp h)
    rw [Go.Maps.atKey_put_other (by simpa using e'), hF a c ha hc]; simp [e]
end Lim
end Go.Proofs.Ytiacgaplhndlnaa
