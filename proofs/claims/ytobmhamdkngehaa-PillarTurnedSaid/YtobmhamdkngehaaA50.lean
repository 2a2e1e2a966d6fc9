/-
  Parts of the proof, in the order in which they build: PoJ.
-/
import Derived.Great.BuildSlice
import Derived.Test.YtobmhamdkngehaaA48
set_option linter.unusedVariables false
set_option linter.unusedSimpArgs false
namespace Go.Proofs.Ytobmhamdkngehaa
open Go.RowKit Go.Shelf
open Lim

theorem infoProf3 : (Try.prog.info? 27).map (fun i => (i.zero, i.size, i.bytes)) = some (some (.agg #[.slice none 0 0, .slice none 0 0, .int .i64 0, .int .i64 0, .int .i64 0]), 5, 72) := by kernel_rfl
set_option maxRecDepth 20000 in
theorem wpList_build3P {ops : Array Oper} {rest : List Oper} {o : Oper} {a : Act} {w : World} {Q : Exit → Act → World → Prop} (hg : o.guard = none) (x y z : Operand) (ho : o.op = .buildSlice 68 3 #[(0, x), (1, y), (2, z)])
    {a0 a1 a2 a3 a4 b0 b1 b2 b3 b4 c0 c1 c2 c3 c4 : Value} (hx : a.eval x = .agg #[a0, a1, a2, a3, a4]) (hy : a.eval y = .agg #[b0, b1, b2, b3, b4]) (hz : a.eval z = .agg #[c0, c1, c2, c3, c4])
    (h : wpList Try.prog ops Q rest (a.put o.dst (.slice (some ⟨w.heap.size, 0, none⟩) 3 3)) (w.alloc (.cells #[a0, a1, a2, a3, a4, b0, b1, b2, b3, b4, c0, c1, c2, c3, c4] 27))) : wpList Try.prog ops Q (o :: rest) a w := by
  obtain ⟨i0, hi, hz0, hz1, hz2⟩ := info_parts infoProf3
  refine wpList_buildSlice hg 68 27 3 _ ho _ i0 _ Try.underlying68 hi hz0 (by rw [hz1]; decide) (by rw [hz1]; decide) ?_ h
  rw [hz1]
  simp only [List.map_toArray, List.map_cons, List.map_nil, hx, hy, hz]
  kernel_rfl
theorem cell_of {W : World} {p j : Nat} {cs : Array Value} {t : TypeId} {v : Value} (h : W.heap[p]? = some (.cells cs t (0, 0))) (hj : cs[j]? = some v) : W.cell? ⟨p, j, none⟩ = some v := by simp [World.cell?, h, hj]
end Go.Proofs.Ytobmhamdkngehaa
