/-
  Parts of the proof, in the order in which they build: EvL, EvS.
-/
import Derived.Deep.CutRange
import Derived.Deep.MidRow
import Derived.Test.YtiacgaplhndlnaaF19
import Derived.Test.YtiacgaplhndlnaaF23
set_option linter.unusedVariables false
set_option linter.unusedSimpArgs false
/-
  Two regions that are asked for; a way out: the contracts of asked and Out.
-/
namespace Go.Proofs.Ytiacgaplhndlnaa
open Go.RowKit Go.Shelf
open Lim

/-- whether two such regions may be asked for -/
def askE (i j : Int) (k : Nat) : Int := if (0 ≤ i ∧ i < k) ∧ (0 ≤ j ∧ j < k) ∧ i ≠ j then 0 else 2
def AskAns (B : Nat) (wd : Int) (os : List Int) (i j : Int) (w : World) (e : Ending) (w' : World) : Prop :=
  Below w.heap.size w w' ∧ ((errE wd os = 0 ∧ ∃ (b g : Nat) (r : Nat → Nat) (k : Nat), e = .returned (.tuple #[.pointer (some ⟨b, 0, none⟩), .int .i64 (askE i j k)]) ∧ (w.heap.size ≤ b ∧ w.heap.size ≤ g) ∧ WkE w' B b g ⟨wd.toNat, os⟩ r k ∧ IsReg ⟨wd.toNat, os⟩ r ∧ IsMany ⟨wd.toNat, os⟩ r k) ∨
    (errE wd os ≠ 0 ∧ e = .returned (.tuple #[.pointer none, .int .i64 (errE wd os)])))
/-- what Out answers -/
def OuAns (wd : Int) (os : List Int) (i j : Int) (w : World) (e : Ending) (w' : World) : Prop :=
  Below w.heap.size w w' ∧ ((errE wd os ≠ 0 ∧ e = .returned (.tuple #[.slice none 0 0, .int .i64 (errE wd os)])) ∨
    (errE wd os = 0 ∧ ∃ (r : Nat → Nat) (k : Nat), IsReg ⟨wd.toNat, os⟩ r ∧ IsMany ⟨wd.toNat, os⟩ r k ∧ ((askE i j k ≠ 0 ∧ e = .returned (.tuple #[.slice none 0 0, .int .i64 (askE i j k)])) ∨
      (askE i j k = 0 ∧ ¬ OutW ⟨wd.toNat, os⟩ r i.toNat j.toNat ∧ e = .returned (.tuple #[.slice none 0 0, .int .i64 7])) ∨
      (askE i j k = 0 ∧ ∃ (v : Value) (L : List Nat), Leads ⟨wd.toNat, os⟩ r i.toNat j.toNat L ∧ L.length ≤ 300 ∧ e = .returned (.tuple #[v, .int .i64 0]) ∧ w'.ownsRow w.heap.size 3 1 v L.length (ints (L.map Int.ofNat))))))
theorem askE_zero {i j : Int} {k : Nat} (h : askE i j k = 0) : (0 ≤ i ∧ i < k) ∧ (0 ≤ j ∧ j < k) ∧ i ≠ j := by
  unfold askE at h
  split at h
  · assumption
  · cases h
end Go.Proofs.Ytiacgaplhndlnaa
/-
  The map behind a deed: the contract of Give.
-/
namespace Go.Proofs.Ytiacgaplhndlnaa
open Go.RowKit Go.Shelf
open Lim

theorem load_map {w : World} {b : Nat} {x y : Value} (h0 : w.cell? ⟨b, 0, none⟩ = some x) (h1 : w.cell? ⟨b, 1, none⟩ = some y) : (loadVar 25 ⟨b, 0, none⟩).run Try.prog w = .ok (.agg #[x, y]) w :=
  run_loadVar_mid w b 0 25 [x, y] _ (two_range h0 h1) Try.underlying25 rfl Try.infoMap
theorem results_ct {P : Program} {fn : Func} {p u : Tmp} {ty : TypeId} (h : fn.results = #[.cell p ty, .tmp u]) (tmps : Array Value) (w : World) (b : Nat) (v : Value)
    (hp : tmps.getD p undef = .pointer (some ⟨b, 0, none⟩)) (hl : (loadVar ty ⟨b, 0, none⟩).run P w = .ok v w) : (results fn tmps).run P w = .ok (.tuple #[v, tmps.getD u undef]) w := by
  have hp' : tmps[p]?.getD undef = .pointer (some ⟨b, 0, none⟩) := by simpa using hp
  simp [results, h, hp', asAddr, hl]
theorem results_ctt {P : Program} {fn : Func} {p t u : Tmp} {ty : TypeId} (h : fn.results = #[.cell p ty, .tmp t, .tmp u]) (tmps : Array Value) (w : World) (b : Nat) (v : Value)
    (hp : tmps.getD p undef = .pointer (some ⟨b, 0, none⟩)) (hl : (loadVar ty ⟨b, 0, none⟩).run P w = .ok v w) : (results fn tmps).run P w = .ok (.tuple #[v, tmps.getD t undef, tmps.getD u undef]) w := by
  have hp' : tmps[p]?.getD undef = .pointer (some ⟨b, 0, none⟩) := by simpa using hp
  simp [results, h, hp', asAddr, hl]
/-- what Give answers -/
def GveAns (wd : Int) (os : List Int) (i : Int) (w : World) (e : Ending) (w' : World) : Prop :=
  Below w.heap.size w w' ∧ ((errE wd os ≠ 0 ∧ e = .returned (.tuple #[.agg #[.int .i64 0, .slice none 0 0], .int .i64 (errE wd os)])) ∨
    (errE wd os = 0 ∧ ∃ (r : Nat → Nat) (k : Nat), IsReg ⟨wd.toNat, os⟩ r ∧ IsMany ⟨wd.toNat, os⟩ r k ∧ ((inB i 0 ((k : Int) - 1) = false ∧ e = .returned (.tuple #[.agg #[.int .i64 0, .slice none 0 0], .int .i64 2])) ∨
      (inB i 0 ((k : Int) - 1) = true ∧ ∃ x, IsAr ⟨wd.toNat, os⟩ r i.toNat k x ∧ ((x = -1 ∧ e = .returned (.tuple #[.agg #[.int .i64 0, .slice none 0 0], .int .i64 10])) ∨
        (x ≠ -1 ∧ ∃ (v : Value) (O : Nat → Int), e = .returned (.tuple #[.agg #[.int .i64 wd, v], .int .i64 0]) ∧ IsGiv ⟨wd.toNat, os⟩ r (fun j => if j = i.toNat then x else -1) O os.length ∧ w'.ownsRow w.heap.size 3 1 v os.length (ints ((List.range os.length).map O))))))))
end Go.Proofs.Ytiacgaplhndlnaa
