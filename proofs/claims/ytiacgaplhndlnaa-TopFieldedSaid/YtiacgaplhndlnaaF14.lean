/-
  Parts of the proof, in the order in which they build: Map.
-/
import Derived.Test.YtiacgaplhndlnaaRows
import Derived.Maps.Own
import Derived.Maps.OwnSet
import Derived.Maps.Views
import Derived.Test.YtiacgaplhndlnaaF2
set_option linter.unusedVariables false
set_option linter.unusedSimpArgs false
namespace Go.Proofs.Ytiacgaplhndlnaa
open Go Go.RowKit
namespace Lim

/-- block b is a map of at most n entries that has F -/
def MapI (w : World) (b n : Nat) (F : Int → Int) : Prop := ∃ D : DataW Unit, w.ownsMap Try.prog 3 (plainElem Try.prog 3) b n D ∧ ∀ c : Int, (Lit.int .i64 c).wf = true → D.atKey (.int .i64 c) (.lit (.int .i64 0)) = .lit (.int .i64 (F c))
theorem MapI.made (w : World) : MapI (w.alloc (.map #[] 0)) w.heap.size 0 (fun _ => 0) := ⟨.map [], World.ownsMap_made _ _ _ _, fun c _ => by simp [DataW.atKey]⟩
theorem MapI.more {w : World} {b n : Nat} {F : Int → Int} (h : MapI w b n F) : MapI w b (n + 1) F := ⟨h.choose, h.choose_spec.1.mono (Nat.le_succ n), h.choose_spec.2⟩
theorem MapI.kept {w w' : World} {b n : Nat} {F : Int → Int} {row : Option Nat} (h : MapI w b n F) (hg : w.grownBy w' row) (hne : some b ≠ row) : MapI w' b n F := ⟨h.choose, h.choose_spec.1.kept hg hne, h.choose_spec.2⟩
theorem MapI.lt {w : World} {b n : Nat} {F : Int → Int} (h : MapI w b n F) : b < w.heap.size := h.choose_spec.1.lt
theorem MapI.same {w w' : World} {b n : Nat} {F : Int → Int} (h : MapI w b n F) (hs : w'.heap[b]? = w.heap[b]?) : MapI w' b n F := by
  obtain ⟨D, ⟨es, clock, hb, r⟩, h2⟩ := h
  exact ⟨D, ⟨es, clock, hs.trans hb, r⟩, h2⟩
theorem MapI.lookup {w : World} {b n : Nat} {F : Int → Int} (h : MapI w b n F) {c : Int} (hc : (Lit.int .i64 c).wf = true) :
    (Instr.lookup 130 (.map (some b)) (.int .i64 c) false).run Try.prog w = .ok (.int .i64 (F c)) w := by
  obtain ⟨D, hD, hF⟩ := h
  obtain ⟨v, hrun, hat, _⟩ := hD.lookup_int (Go.Maps.int_keyed Try.underlying3) Try.underlying130 Try.underlying3 (by kernel_rfl) (Go.Maps.keyOf_int_mk Try.underlying3 hc)
  rw [hF c hc] at hat
  simp at hat
  rw [hrun, hat]
theorem MapI.update {w : World} {b n : Nat} {F : Int → Int} (h : MapI w b n F) (hn : n < maxLen) {c v : Int} (hc : (Lit.int .i64 c).wf = true) (hv : (Lit.int .i64 v).wf = true) :
    ∃ w', (Instr.mapUpdate 130 (.map (some b)) (.int .i64 c) (.int .i64 v)).run Try.prog w = .ok () w' ∧ MapI w' b (n + 1) (fun x => if x = c then v else F x) ∧ w.grownBy w' (some b) := by
  obtain ⟨D, hD, hF⟩ := h
  obtain ⟨w', hrun, hD', hg⟩ := hD.update (Go.Maps.int_keyed Try.underlying3) Try.underlying130 hn (Go.Maps.keyOf_int_mk Try.underlying3 hc) (plainElem_int Try.underlying3 hv)
  refine ⟨w', hrun, ⟨_, hD', fun x hx => ?_⟩, hg⟩
  by_cases e : x = c
  · subst e
    rw [Go.Maps.atKey_put_same (k := .int .i64 x) hD.isMap trivial]; simp
  · rw [Go.Maps.atKey_put_other (by simpa using e), hF x hx]; simp [e]

end Lim
end Go.Proofs.Ytiacgaplhndlnaa
