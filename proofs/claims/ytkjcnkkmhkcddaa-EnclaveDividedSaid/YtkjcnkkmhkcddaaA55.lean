/-
  Parts of the proof, in the order in which they build: EzA.
-/
import Derived.Laws.AppendOwn
import Derived.Deep.CutRange
import Derived.Test.YtkjcnkkmhkcddaaA54
import Derived.Test.YtkjcnkkmhkcddaaA45
import Derived.Test.YtkjcnkkmhkcddaaA48
set_option linter.unusedVariables false
set_option linter.unusedSimpArgs false
namespace Go.Proofs.Ytkjcnkkmhkcddaa
open Go.RowKit Go.Shelf
open Lim

attribute [local go_sem] Oper.semAt_some

theorem Deck.row {W W' : World} {d n : Nat} {row : Option Nat} (h : Deck W d n) (hg : W.grownBy W' row) (hr : ∀ r, row = some r → d < r) : Deck W' d n := by
  obtain ⟨cv, l, k, s, h, hk⟩ := h
  have hd : d < W.heap.size := World.block_lt_of_cell? _ _ h.c.1
  have he : W'.heap[d]? = W.heap[d]? := hg.block d hd (fun e => by have := hr d e.symm; omega)
  have hb : Below d W W' := ⟨hg.os, hg.tape, hg.output, hg.size, fun k hk => hg.block k (by omega) (fun e => by have := hr k e.symm; omega)⟩
  exact ⟨cv, l, k, s, ⟨⟨(World.cell?_of_block he).trans h.c.1, (World.cell?_of_block he).trans h.c.2.1, (World.cell?_of_block he).trans h.c.2.2⟩, ⟨(World.frozen?_of_block he).trans h.f.1, (World.frozen?_of_block he).trans h.f.2⟩, h.r.below hb, h.u, h.k0, h.s0⟩, hk⟩
theorem Deck.lt {W : World} {d n : Nat} (h : Deck W d n) : d < W.heap.size := by
  obtain ⟨cv, l, k, s, h, -⟩ := h
  exact World.block_lt_of_cell? _ _ h.c.1
section
variable {W0 W W' : World} {d c q6 q7 : Nat} {wd : Int} {B1 : Nat} {rv : Value} {R : List Int} {v : Value} {os : List Int}
end
end Go.Proofs.Ytkjcnkkmhkcddaa
