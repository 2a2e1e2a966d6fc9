/-
  Parts of the proof, in the order in which they build: QiO.
-/
import Derived.Test.YtobmhamdkngehaaA11
import Derived.Test.YtobmhamdkngehaaB1
import Derived.Test.YtobmhamdkngehaaA14
set_option linter.unusedVariables false
set_option linter.unusedSimpArgs false
namespace Go.Proofs.Ytobmhamdkngehaa
open Go.RowKit Go.Shelf
open Lim

/-- the profile of a truth -/
def Pf.own (p : Pf) (xs : List Int) (bd : Int) : Pf := ⟨p.ats, xs.map (fun x => (x, x)), p.tall, bd, bd⟩
/-- heights lie in their spans -/
def truthB (p : Pf) (xs : List Int) : Bool := (List.range p.n).all fun k => inR (xs.getD k 0) (p.g k).1 (p.g k).2
theorem truth_at {p : Pf} {xs : List Int} (h : truthB p xs = true) {k : Nat} (hk : k < p.n) : (p.g k).1 ≤ xs.getD k 0 ∧ xs.getD k 0 ≤ (p.g k).2 :=
  inR_iff.1 ((List.all_eq_true.1 h) k (List.mem_range.2 hk))
theorem own_g {p : Pf} {xs : List Int} {bd : Int} (k : Nat) (hk : k < xs.length) : (p.own xs bd).g k = (xs.getD k 0, xs.getD k 0) := by
  unfold Pf.own Pf.g
  simp [List.getD_eq_getElem?_getD, List.getElem?_eq_getElem hk]
theorem own_ok {p : Pf} (h : p.Ok) {xs : List Int} {bd : Int} (hl : xs.length = p.n) (ht : truthB p xs = true) (hb : inR bd p.lo p.hi = true) : (p.own xs bd).Ok := by
  have hbb := inR_iff.1 hb
  have hpb := h.bend
  refine ⟨h.n2, h.n40, by show (xs.map _).length = p.n; rw [List.length_map]; exact hl, h.ats, fun k hk => ?_, h.tall, by show 0 ≤ bd ∧ bd ≤ bd ∧ bd ≤ 1000; omega, h.up⟩
  have hk' : k < p.n := hk
  have h1 := truth_at ht hk'
  have h2 := h.gr k hk'
  rw [own_g k (by omega)]
  show 0 ≤ xs.getD k 0 ∧ xs.getD k 0 ≤ xs.getD k 0 ∧ xs.getD k 0 ≤ 1000000
  omega
/-- what lies in memory while Real runs -/
structure ReM (w w0 : World) (o n ac gc ab ao gb go k : Nat) (p : Pf) (xs : List Int) (bd : Int) (v : Value) (W : World) : Prop where
  be : Below w.heap.size w W
  ge : w.heap.size ≤ o
  c : PfC W o (p.own xs bd) (.slice (some ⟨ab, ao, none⟩) n ac) v
  f1 : W.frozen? ⟨o, 1, none⟩ = false
  ow : W.ownsRow (o + 1) 25 2 v k (spans ((xs.take k).map (fun x => (x, x))))
  l : PfL w.heap.size W p ab ao ac gb go gc
  b0 : Below o w0 W
section
variable {w w0 : World} {o n ac gc ab ao gb go k : Nat} {p : Pf} {xs : List Int} {bd : Int} {v : Value} {W W' : World}
theorem ReM.lt (h : ReM w w0 o n ac gc ab ao gb go k p xs bd v W) : o < W.heap.size := World.block_lt_of_cell? _ _ h.c.c0
theorem ReM.grow (h : ReM w w0 o n ac gc ab ao gb go k p xs bd v W) (hb : Below W.heap.size W W') : ReM w w0 o n ac gc ab ao gb go k p xs bd v W' :=
  ⟨h.be.trans (hb.mono h.be.size), h.ge, h.c.grow hb, (hb.frozen (p := ⟨o, 1, none⟩) h.lt).trans h.f1, owns_below h.ow hb, h.l.grow (hb.mono h.be.size), h.b0.trans (hb.mono (Nat.le_of_lt h.lt))⟩
/-- a height is appended -/
theorem ReM.add {W1 : World} {v' : Value} (h : ReM w w0 o n ac gc ab ao gb go k p xs bd v W) (hk : k < xs.length) {x : Int} (hx : x = xs.getD k 0) (y : Value) (hW : Below W.heap.size W W1) (ho : W'.ownsRow (o + 1) 25 2 v' (k + 1) (spans ((xs.take k).map (fun x => (x, x))) ++ [.int .i64 x, .int .i64 x])) (hg : W1.grownBy W' v.ownBlock) :
    ReM w w0 o n ac gc ab ao gb go (k + 1) p xs bd v' (W'.setCell ⟨o, 1, none⟩ v') := by
  have g := h.grow hW
  have hlow : ∀ b, v.ownBlock = some b → o + 1 ≤ b := fun b e => (g.ow.lt b e).1
  have hge := h.ge
  have hlt := h.lt
  have hs1 := hW.size
  have b1 : Below w.heap.size w W' := g.be.grown hg g.be.size (fun b e => by have := hlow b e; omega)
  have b2 : Below (o + 1) W1 W' := (Below.refl (o + 1) W1).grown hg (by omega) (fun b e => hlow b e)
  have off : ∀ (i : Nat) (u : Value), i ≠ 1 → W1.cell? ⟨o, i, none⟩ = some u → (W'.setCell ⟨o, 1, none⟩ v').cell? ⟨o, i, none⟩ = some u := fun i u hne hc => by
    rw [World.cell?_setCell_other W' _ _ _ (fun e => hne (congrArg Addr.off e).symm), b2.cell (p := ⟨o, i, none⟩) (by show o < o + 1; omega)]; exact hc
  have hs : spans ((xs.take (k + 1)).map (fun x => (x, x))) = spans ((xs.take k).map (fun x => (x, x))) ++ [.int .i64 x, .int .i64 x] := by
    have e : xs[k] = x := by rw [hx, List.getD_eq_getElem?_getD, List.getElem?_eq_getElem hk]; rfl
    rw [List.take_succ_eq_append_getElem hk, List.map_append, e, spans_append]; rfl
  refine ⟨b1.setCell (p := ⟨o, 1, none⟩) hge _, hge, ⟨off 0 _ (by omega) g.c.c0, World.cell?_setCell_same' _ _ _ (by rw [b2.cell (p := ⟨o, 1, none⟩) (by show o < o + 1; omega), g.c.c1]; rfl), off 2 _ (by omega) g.c.c2, off 3 _ (by omega) g.c.c3, off 4 _ (by omega) g.c.c4⟩, ?_, ?_, (h.l.grow (hW.mono h.be.size)).grow ?_, ?_⟩
  · rw [World.frozen?_setCell, b2.frozen (p := ⟨o, 1, none⟩) (by show o < o + 1; omega)]; exact g.f1
  · rw [hs]; exact owns_setCellB ho _ (Nat.lt_succ_self o)
  · exact ((b2.mono (by omega)).setCell (p := ⟨o, 1, none⟩) hge _)
  · exact ((h.b0.trans (hW.mono (Nat.le_of_lt hlt))).trans (b2.mono (Nat.le_succ o))).setCell (p := ⟨o, 1, none⟩) (Nat.le_refl o) _
end
end Go.Proofs.Ytobmhamdkngehaa
