/-
  Parts of the proof, in the order in which they build: PoC.
-/
import Derived.Test.YtobmhamdkngehaaA42
import Derived.Test.YtobmhamdkngehaaA43
set_option linter.unusedVariables false
set_option linter.unusedSimpArgs false
namespace Go.Proofs.Ytobmhamdkngehaa
open Go.RowKit Go.Shelf
open Lim

/-- memory while a truth is drawn -/
structure DrS (w : World) (S d : Nat) (gv : Value) (p : Pf) (bx : Obj) (c : Nat) (v : Value) (T : List Int) (W : World) : Prop where
  gr : w.grownBy W (some d)
  dk : Deck W d c
  h : W.ownsRow S 25 2 gv p.gr.length (spans p.gr)
  o : W.ownsRow w.heap.size 3 1 v T.length (ints T)
  b : W.heap[w.heap.size]? = some bx ∧ ∃ cs fr, bx = .cells cs 27 fr
theorem DrS.bl {w : World} {S d : Nat} {gv : Value} {p : Pf} {bx : Obj} {c : Nat} {v : Value} {T : List Int} {W : World} (H : DrS w S d gv p bx c v T W) : w.heap.size < W.heap.size := (Array.getElem?_eq_some_iff.1 H.b.1).1
theorem DrS.push {w : World} {S d : Nat} {gv : Value} {p : Pf} {bx : Obj} {c : Nat} {v v' : Value} {T : List Int} {x : Int} {W W' : World} (H : DrS w S d gv p bx c v T W) (hS : d < S ∧ S ≤ w.heap.size) (ho : W'.ownsRow w.heap.size 3 1 v' (T.length + 1) (ints T ++ [.int .i64 x])) (hg : W.grownBy W' v.ownBlock) : DrS w S d gv p bx c v' (T ++ [x]) W' := by
  have hlo : ∀ r, v.ownBlock = some r → w.heap.size ≤ r ∧ ∃ cs, W.heap[r]? = some (.cells cs 3 (0, 0)) := fun r e => by
    obtain ⟨h1, -, h3⟩ := owned_block (r := ⟨3, 1, v, T.length, ints T⟩) H.o e
    exact ⟨h1, h3⟩
  refine ⟨⟨hg.os.trans H.gr.os, hg.tape.trans H.gr.tape, hg.output.trans H.gr.output, Nat.le_trans H.gr.size hg.size, fun k hk hr => (hg.block k (Nat.lt_of_lt_of_le hk H.gr.size) (fun e => by have := (hlo k e.symm).1; omega)).trans (H.gr.block k hk hr)⟩,
    H.dk.row hg (fun r e => by have := (hlo r e).1; omega), ?_, ?_, (hg.block _ H.bl (fun e => ?_)).trans H.b.1, H.b.2⟩
  · exact owned_keep (r := ⟨25, 2, gv, p.gr.length, spans p.gr⟩) H.h (fun k hk => by
      obtain ⟨h1, h2, cs, h3⟩ := owned_block (r := ⟨25, 2, gv, p.gr.length, spans p.gr⟩) H.h hk
      exact hg.block k h2 (fun e => by
        obtain ⟨-, cs', h4⟩ := hlo k e.symm
        rw [h3] at h4
        exact absurd (Obj.cells.inj (Option.some.inj h4)).2.1 (by show ¬ 25 = 3; decide)))
  · have e : (T ++ [x]).length = T.length + 1 := by simp
    rw [e]
    simpa [ints] using ho
  · obtain ⟨-, cs', h4⟩ := hlo _ e.symm
    obtain ⟨cs, fr, h5⟩ := H.b.2
    rw [H.b.1, h5] at h4
    exact absurd (Obj.cells.inj (Option.some.inj h4)).2.1 (by show ¬ 27 = 3; decide)
end Go.Proofs.Ytobmhamdkngehaa
