/-
  Parts of the proof, in the order in which they build: QiM.
-/
import Derived.Test.YtohjinbgbfggcaaRows
import Derived.Maps.Own
import Derived.Maps.OwnSet
import Derived.Maps.Views
import Derived.Test.YtohjinbgbfggcaaA1
set_option linter.unusedVariables false
set_option linter.unusedSimpArgs false
namespace Go.Proofs.Ytohjinbgbfggcaa
open Go Go.RowKit Go.ChangeMaps Go.WideShapes
open Go.WideElems (rg)
namespace Lim

/-- block b is a map of at most n entries that has F -/
def MapO (w : World) (b n : Nat) (F : Int → Option Int) : Prop := ∃ D : DataW Unit, w.ownsMap Try.prog 3 (plainElem Try.prog 3) b n D ∧
  ∀ c : Int, (Lit.int .i64 c).wf = true → Maps.has D (.int .i64 c) = (F c).isSome ∧ D.atKey (.int .i64 c) (.lit (.int .i64 0)) = .lit (.int .i64 ((F c).getD 0))
theorem MapO.made (w : World) : MapO (w.alloc (.map #[] 0)) w.heap.size 0 (fun _ => none) := ⟨.map [], World.ownsMap_made _ _ _ _, fun c _ => ⟨rfl, by simp [DataW.atKey]⟩⟩
theorem MapO.more {w : World} {b n : Nat} {F : Int → Option Int} (h : MapO w b n F) {m : Nat} (hm : n ≤ m) : MapO w b m F := ⟨h.choose, h.choose_spec.1.mono hm, h.choose_spec.2⟩
theorem MapO.kept {w w' : World} {b n : Nat} {F : Int → Option Int} {row : Option Nat} (h : MapO w b n F) (hg : w.grownBy w' row) (hne : some b ≠ row) : MapO w' b n F := ⟨h.choose, h.choose_spec.1.kept hg hne, h.choose_spec.2⟩
theorem MapO.lt {w : World} {b n : Nat} {F : Int → Option Int} (h : MapO w b n F) : b < w.heap.size := h.choose_spec.1.lt
theorem MapO.same {w w' : World} {b n : Nat} {F : Int → Option Int} (h : MapO w b n F) (hs : w'.heap[b]? = w.heap[b]?) : MapO w' b n F := by
  obtain ⟨D, ⟨es, clock, hb, r⟩, h2⟩ := h
  exact ⟨D, ⟨es, clock, hs.trans hb, r⟩, h2⟩
theorem MapO.lookup {w : World} {b n : Nat} {F : Int → Option Int} (h : MapO w b n F) {c : Int} (hc : (Lit.int .i64 c).wf = true) :
    (Instr.lookup 107 (.map (some b)) (.int .i64 c) false).run Try.prog w = .ok (.int .i64 ((F c).getD 0)) w := by
  obtain ⟨D, hD, hF⟩ := h
  obtain ⟨v, hrun, hat, _⟩ := hD.lookup_int (Go.Maps.int_keyed Try.underlying3) Try.underlying107 Try.underlying3 (by kernel_rfl) (Go.Maps.keyOf_int_mk Try.underlying3 hc)
  rw [(hF c hc).2] at hat
  simp at hat
  rw [hrun, hat]
theorem MapO.look {w : World} {b n : Nat} {F : Int → Option Int} (h : MapO w b n F) {c : Int} (hc : (Lit.int .i64 c).wf = true) :
    (Instr.lookup 107 (.map (some b)) (.int .i64 c) true).run Try.prog w = .ok (.tuple #[.int .i64 ((F c).getD 0), .bool (F c).isSome]) w := by
  obtain ⟨D, hD, hF⟩ := h
  obtain ⟨v, ps, hrun, hv⟩ := hD.look_ok (Go.Maps.int_keyed Try.underlying3) Try.underlying107 (z := .int .i64 0) (by kernel_rfl) (plainElem_int Try.underlying3 (by decide)) (Go.Maps.keyOf_int_mk Try.underlying3 hc)
  obtain ⟨x, rfl, hx, -⟩ := plainElem_int_inv Try.underlying3 hv
  have h1 := congrArg Prod.fst hx
  simp only at h1
  rw [(hF c hc).2] at h1
  simp at h1
  rw [hrun, (hF c hc).1, h1]
theorem MapO.update {w : World} {b n : Nat} {F : Int → Option Int} (h : MapO w b n F) (hn : n < maxLen) {c v : Int} (hc : (Lit.int .i64 c).wf = true) (hv : (Lit.int .i64 v).wf = true) :
    ∃ w', (Instr.mapUpdate 107 (.map (some b)) (.int .i64 c) (.int .i64 v)).run Try.prog w = .ok () w' ∧ MapO w' b (n + 1) (fun x => if x = c then some v else F x) ∧ w.grownBy w' (some b) := by
  obtain ⟨D, hD, hF⟩ := h
  obtain ⟨w', hrun, hD', hg⟩ := hD.update (Go.Maps.int_keyed Try.underlying3) Try.underlying107 hn (Go.Maps.keyOf_int_mk Try.underlying3 hc) (plainElem_int Try.underlying3 hv)
  refine ⟨w', hrun, ⟨_, hD', fun x hx => ?_⟩, hg⟩
  by_cases e : x = c
  · subst e
    rw [Go.Maps.atKey_put_same (k := .int .i64 x) hD.isMap trivial, Go.Maps.has_put_same (k := .int .i64 x) hD.isMap trivial]; simp
  · rw [Go.Maps.atKey_put_other (by simpa using e), Go.Maps.has_put_other (by simpa using e), (hF x hx).1, (hF x hx).2]; simp [e]
theorem ownsMap_sharp {w : World} {b m n : Nat} {k : TypeId} {R : Value → Option (DataW Unit × List MemPlace)} {D : DataW Unit} (h : w.ownsMap Try.prog k R b m D) (hs : Maps.size D ≤ n) : w.ownsMap Try.prog k R b n D := by
  obtain ⟨es, clock, hb, F, hm, rfl⟩ := h
  refine ⟨es, clock, hb, F, ?_, rfl⟩
  have e1 : Maps.size (DataW.map ((es.toList.map (rg Try.prog k R)).foldr DataW.insert [])) = es.size := by simp [Maps.size, length_sorted]
  omega
/-- a number that is there already: the map grows no larger -/
theorem MapO.over {w : World} {b n : Nat} {F : Int → Option Int} (h : MapO w b n F) (hn : n < maxLen) {c v : Int} (hc : (Lit.int .i64 c).wf = true) (hv : (Lit.int .i64 v).wf = true) :
    ∃ w', (Instr.mapUpdate 107 (.map (some b)) (.int .i64 c) (.int .i64 v)).run Try.prog w = .ok () w' ∧ MapO w' b (n + if (F c).isSome then 0 else 1) (fun x => if x = c then some v else F x) ∧ w.grownBy w' (some b) := by
  obtain ⟨D, hD, hF⟩ := h
  obtain ⟨w', hrun, hD', hg⟩ := hD.update (Go.Maps.int_keyed Try.underlying3) Try.underlying107 hn (Go.Maps.keyOf_int_mk Try.underlying3 hc) (plainElem_int Try.underlying3 hv)
  refine ⟨w', hrun, ⟨_, ownsMap_sharp hD' ?_, fun x hx => ?_⟩, hg⟩
  · rw [Go.Maps.size_put (hD.tidy (Go.Maps.int_keyed Try.underlying3)), (hF c hc).1]
    have := hD.size_le
    split <;> omega
  by_cases e : x = c
  · subst e
    rw [Go.Maps.atKey_put_same (k := .int .i64 x) hD.isMap trivial, Go.Maps.has_put_same (k := .int .i64 x) hD.isMap trivial]; simp
  · rw [Go.Maps.atKey_put_other (by simpa using e), Go.Maps.has_put_other (by simpa using e), (hF x hx).1, (hF x hx).2]; simp [e]

end Lim
end Go.Proofs.Ytohjinbgbfggcaa
