/-
  Parts of the proof, in the order in which they build: EwD.
-/
import Derived.WideKeyEntry
import Derived.Test.YtkjcnkkmhkcddaaA32
set_option linter.unusedVariables false
set_option linter.unusedSimpArgs false
namespace Go.Proofs.Ytkjcnkkmhkcddaa
open Go.RowKit Go.Shelf
open Lim

open Go.ChangeMaps Go.WideShapes
open Go.WideElems (rg)
theorem zero_int (w : World) : (zeroValue 3).run Try.prog w = .ok (.int .i64 0) w := by kernel_rfl
theorem setBlock_self {w : World} {b : Nat} {o : Obj} (h : w.heap[b]? = some o) : setBlock w b o = w := by
  obtain ⟨hlt, e⟩ := Array.getElem?_eq_some_iff.1 h
  unfold setBlock
  have : w.heap.setIfInBounds b o = w.heap := by
    apply Array.ext (by simp)
    intro i h1 h2
    rw [Array.getElem_setIfInBounds]
    split
    · subst_vars; rfl
    · rfl
  rw [this]
theorem ok_world {α : Type} {a a' : α} {w w' : World} (h : (Result.ok a w : Result α) = .ok a' w') : w = w' := by injection h
theorem ok_value {α : Type} {a a' : α} {w w' : World} (h : (Result.ok a w : Result α) = .ok a' w') : a = a' := by injection h
theorem Lim.MapS.entry {w : World} {b n : Nat} {F : Nat → Nat → Option Int} (h : MapS w b n F) (hn : n < maxLen) {x y : Nat} (hx : x < 1000) (hy : y < 1000) (hs : (F x y).isSome = true) :
    ∃ st : Nat, (Instr.mapEntry 106 (.map (some b)) (.agg #[.int .i64 x, .int .i64 y])).run Try.prog w = .ok (.tuple #[.int .i64 ((F x y).getD 0), .int .i64 st]) w ∧
      ∀ v : Int, (Lit.int .i64 v).wf = true → ∃ w', (Instr.entryStore 106 (.map (some b)) (.int .i64 st) (.int .i64 v)).run Try.prog w = .ok () w' ∧ MapS w' b n (fun a c => if a = x ∧ c = y then some v else F a c) ∧ w.grownBy w' (some b) := by
  have h0 := h
  have hl := h.lookup hx hy
  obtain ⟨D, hD, hF⟩ := h
  have hD0 := hD
  obtain ⟨es, clock, hb, Fi, hsz, rfl⟩ := hD
  have ht := Try.underlying106
  have hkey := keyOf_side hx hy
  obtain ⟨s1, s2, _⟩ := Fi.stamped
  have hno : ¬ ∀ e ∈ es.toList, e.key ≠ sideV x y := by
    intro hall
    obtain ⟨v, ps, hrun, hv⟩ := hD0.look_ok keySide ht (z := .int .i64 0) (zero_int w) (plainElem_int Try.underlying3 (by decide)) hkey
    rw [(hF x y hx hy).1, hs] at hrun
    rcases Maps.fit_look true keySide ht (zero_int w) hb Fi hkey with ⟨hr2, -⟩ | ⟨e0, z, hm, hk, -⟩
    · rw [hr2] at hrun
      simp at hrun
    · exact hall e0 hm hk
  rcases keySide.find w hkey es.toList Fi.keys with ⟨h1, h2⟩ | ⟨j, e0, h1, h2, h3⟩
  · exact absurd h2 hno
  · have hj : es[j]? = some e0 := by simpa using h2
    have hsame : es.modify j (fun e => { e with key := sideV x y }) = es := by
      apply Array.ext'
      rw [Array.toList_modify, modify_eq_set _ _ _ _ h2]
      have : ({ e0 with key := sideV x y } : MapEntry) = e0 := by rw [← h3]
      rw [this]
      exact Go.WideElems.set_self _ _ _ h2
    have hval : e0.val = .int .i64 ((F x y).getD 0) := by
      have h4 : (Instr.lookup 106 (.map (some b)) (sideV x y) false).run Try.prog w = .ok e0.val w := by
        simp [Instr.lookup, run_underlying ht, MapKept.run_getObj_map hb, keySide.check w _ hkey, h1, Result.andThen]
      exact ok_value (h4.symm.trans hl)
    refine ⟨e0.born, ?_, fun v hv => ?_⟩
    · have h6 : (Instr.mapEntry 106 (.map (some b)) (sideV x y)).run Try.prog w = .ok (.tuple #[e0.val, goInt e0.born]) w := by
        have hw : setBlock w b (.map es clock) = w := setBlock_self hb
        simp [Instr.mapEntry, run_underlying ht, MapKept.run_getObj_map hb, keySide.check w false hkey, h1, hj, h3, keySide.stays w hkey, hsame, MapKept.run_setObj_map _ hb, Result.andThen]
        exact hw
      rw [hval] at h6
      exact h6
    · obtain ⟨w', hu, hm, hg⟩ := h0.over hn hx hy hv
      rw [hs] at hm
      refine ⟨w', ?_, hm, hg⟩
      have hidx : es.findIdx? (fun e => ((e.born : Nat) : Int) == ((e0.born : Nat) : Int)) = some j := by
        rw [Go.WideElems.findIdx_arr]
        exact Go.WideElems.findIdx_born s2 h2
      have hmod : es.modify j (fun e => { e with val := .int .i64 v }) = es.modify j (fun e' => { e' with key := sideV x y, val := .int .i64 v }) := by
        apply Array.ext'
        rw [Array.toList_modify, Array.toList_modify, modify_eq_set _ _ _ _ h2, modify_eq_set _ _ _ _ h2, ← h3]
      have e1 : (Instr.entryStore 106 (.map (some b)) (.int .i64 e0.born) (.int .i64 v)).run Try.prog w = .ok () (setBlock w b (.map (es.modify j (fun e' => { e' with key := sideV x y, val := .int .i64 v })) clock)) := by
        simp [Instr.entryStore, MapKept.run_getObj_map hb, asInt, asIntOf, hidx, hmod, MapKept.run_setObj_map _ hb, Result.andThen, setBlock]
      have e2 : (Instr.mapUpdate 106 (.map (some b)) (sideV x y) (.int .i64 v)).run Try.prog w = .ok () (setBlock w b (.map (es.modify j (fun e' => { e' with key := sideV x y, val := .int .i64 v })) clock)) := by
        simp [Instr.mapUpdate, run_underlying ht, MapKept.run_getObj_map hb, keySide.check w false hkey, h1, hj, h3, keySide.stays w hkey, MapKept.run_setObj_map _ hb, Result.andThen, setBlock]
      have e4 := ok_world (e2.symm.trans hu)
      rw [e1, e4]
end Go.Proofs.Ytkjcnkkmhkcddaa
