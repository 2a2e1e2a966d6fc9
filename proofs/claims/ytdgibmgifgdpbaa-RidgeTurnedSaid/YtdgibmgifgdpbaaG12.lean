/-
  Parts of the proof, in the order in which they build: PathMem, Path, Ways, Crossing, SaddlesFn.
-/
import Derived.Lib.SliceRun
import Derived.BigFrame
import Derived.Scope
import Derived.Carry
import Derived.Test.YtdgibmgifgdpbaaG8
import Derived.Test.YtdgibmgifgdpbaaG9
import Derived.Test.YtdgibmgifgdpbaaG11
set_option linter.unusedVariables false
set_option linter.unusedSimpArgs false
/-
  What lies in memory while ridge's method path runs.
-/
namespace Go.Proofs.Ytdgibmgifgdpbaa
open Go.RowKit Go.Shelf
open Lim

theorem WorkIn.steady {B B' : Nat} {w w' : World} {b : Nat} {g : Gd} (h : WorkIn B w b g) (hs : Steady B' w w') : WorkIn B w' b g :=
  ⟨hs.cell h.c0, let ⟨v, h1, h2⟩ := h.c1; ⟨v, hs.cell h1, h2.steady hs⟩, let ⟨v, h1, h2⟩ := h.c2; ⟨v, hs.cell h1, h2.steady hs⟩⟩
theorem MetAt.steady {B' : Nat} {w w' : World} {b : Nat} {M : Nat → Bool} (h : MetAt w b M) (hs : Steady B' w w') : MetAt w' b M :=
  fun k hk => ⟨hs.cell (h k hk).1, (hs.frozen (h k hk).1).trans (h k hk).2⟩
theorem below_of_grown {B : Nat} {w w' : World} {row : Option Nat} (hg : w.grownBy w' row) (hB : B ≤ w.heap.size) (hr : ∀ r, row = some r → B ≤ r) : Below B w w' :=
  ⟨hg.os, hg.tape, hg.output, hg.size, fun k hk => hg.block k (by omega) (fun e => by have := hr k e.symm; omega)⟩
theorem WorkIn.grown {B : Nat} {w w' : World} {b : Nat} {g : Gd} {row : Option Nat} (h : WorkIn B w b g) (hg : w.grownBy w' row) (hne : row ≠ some b) (hB : B ≤ w.heap.size) (hr : ∀ r, row = some r → B ≤ r) : WorkIn B w' b g := by
  have hb := below_of_grown hg hB hr
  have hc : ∀ {j v}, w.cell? ⟨b, j, none⟩ = some v → w'.cell? ⟨b, j, none⟩ = some v := fun h => hg.cell h (fun e => hne e.symm)
  exact ⟨hc h.c0, let ⟨v, h1, h2⟩ := h.c1; ⟨v, hc h1, h2.below hb⟩, let ⟨v, h1, h2⟩ := h.c2; ⟨v, hc h1, h2.below hb⟩⟩
theorem MetAt.grown {w w' : World} {b : Nat} {M : Nat → Bool} {row : Option Nat} (h : MetAt w b M) (hg : w.grownBy w' row) (hne : row ≠ some b) : MetAt w' b M :=
  fun k hk => ⟨hg.cell (h k hk).1 (fun e => hne e.symm), (hg.frozen_far ⟨b, 3 + k, none⟩ (World.block_lt_of_cell? _ _ (h k hk).1) (fun e => hne e.symm)).trans (h k hk).2⟩
/-- blocks behind a first world: what grows only there keeps the first world but for its row -/
theorem grown_but {w0 w w' : World} {row row' : Option Nat} (h : w0.grownBy w row) (hg : w.grownBy w' row') (hr : ∀ r, row' = some r → some r = row ∨ w0.heap.size ≤ r) : w0.grownBy w' row :=
  ⟨hg.os.trans h.os, hg.tape.trans h.tape, hg.output.trans h.output, Nat.le_trans h.size hg.size, fun k hk hne => by
    refine (hg.block k (Nat.lt_of_lt_of_le hk h.size) (fun e => ?_)).trans (h.block k hk hne)
    rcases hr k e.symm with h1 | h1
    · exact hne h1
    · omega⟩
theorem grown_below {w0 w w' : World} {row : Option Nat} (h : w0.grownBy w row) (hb : Below w.heap.size w w') : w0.grownBy w' row :=
  ⟨hb.os.trans h.os, hb.tape.trans h.tape, hb.output.trans h.output, Nat.le_trans h.size hb.size, fun k hk hne => (hb.block k (Nat.lt_of_lt_of_le hk h.size)).trans (h.block k hk hne)⟩
theorem grown_steady {B : Nat} {w0 w w' : World} {row : Option Nat} (h : w0.grownBy w row) (hs : Steady B w w') (hB : w0.heap.size ≤ B) : w0.grownBy w' row :=
  ⟨hs.os.trans h.os, hs.tape.trans h.tape, hs.output.trans h.output, Nat.le_trans h.size hs.size, fun k hk hne => by
    have hlt : k < w.heap.size := Nat.lt_of_lt_of_le hk h.size
    have h1 := hs.same k _ (Array.getElem?_eq_getElem hlt) (.inl (by omega))
    rw [h1, ← h.block k hk hne, Array.getElem?_eq_getElem hlt]⟩

/-- a clear of the marks -/
theorem size_setCells (b : Nat) (vs : List Value) : ∀ (o : Nat) (w : World), (w.setCells b o vs).heap.size = w.heap.size := by
  induction vs with
  | nil => intro o w; rfl
  | cons v vs ih => intro o w; exact (ih (o + 1) _).trans (by simp [World.setCell])
theorem cells_far {b o : Nat} {vs : List Value} {k j : Nat} : ∀ {w : World}, b ≠ k → (w.setCells b o vs).cell? ⟨k, j, none⟩ = w.cell? ⟨k, j, none⟩ := by
  induction vs generalizing o with
  | nil => intro w _; rfl
  | cons v vs ih => intro w h; exact (ih (o := o + 1) h).trans (setCell_far _ _ h)
theorem cells_ahead {b o : Nat} {vs : List Value} {j : Nat} : ∀ {w : World}, j < o → (w.setCells b o vs).cell? ⟨b, j, none⟩ = w.cell? ⟨b, j, none⟩ := by
  induction vs generalizing o with
  | nil => intro w _; rfl
  | cons v vs ih => intro w h; exact (ih (o := o + 1) (by omega)).trans (setCell_off _ _ (by omega))
theorem grown_cells (b : Nat) (vs : List Value) : ∀ (o : Nat) (w : World), w.grownBy (w.setCells b o vs) (some b) := by
  induction vs with
  | nil => intro o w; exact ⟨rfl, rfl, rfl, Nat.le_refl _, fun _ _ _ => rfl⟩
  | cons v vs ih => intro o w; exact grown_but (grownBy_setCell w ⟨b, o, none⟩ v) (ih (o + 1) _) (fun r e => .inl e.symm)
theorem grown_clear {w w1 : World} (hb : Below w.heap.size w w1) (b o : Nat) (vs : List Value) : w.grownBy (w1.setCells b o vs) (some b) :=
  grown_but (⟨hb.os, hb.tape, hb.output, hb.size, fun k hk _ => hb.block k hk⟩ : w.grownBy w1 (some b)) (grown_cells b vs o w1) (fun r e => .inl e.symm)
theorem work_clear {B : Nat} {w : World} {b : Nat} {g : Gd} (h : WorkIn B w b g) (hB : B ≤ b) (_ : True) (vs : List Value) : WorkIn B (w.setCells b 3 vs) b g := by
  have hb : Below B w (w.setCells b 3 vs) := below_setCells hB _ _ _ (Below.refl _ w)
  exact ⟨(cells_ahead (by omega)).trans h.c0, let ⟨v, h1, h2⟩ := h.c1; ⟨v, (cells_ahead (by omega)).trans h1, h2.below hb⟩, let ⟨v, h1, h2⟩ := h.c2; ⟨v, (cells_ahead (by omega)).trans h1, h2.below hb⟩⟩
def falses : List Value := List.replicate 100 (.bool false)
theorem falses_length : falses.length = 100 := by simp [falses]
theorem met_clear {w : World} {b : Nat} {M : Nat → Bool} (h : MetAt w b M) : MetAt (w.setCells b 3 falses) b (fun _ => false) := by
  have hthr : w.there b 3 falses.length := fun j hj => by
    rw [falses_length] at hj
    exact ⟨by rw [(h j hj).1]; rfl, (h j hj).2⟩
  intro k hk
  refine ⟨World.rangeAt_setCells_same _ _ _ _ hthr k (.bool false) (List.getElem?_replicate_of_lt hk), ?_⟩
  have : ∀ (vs : List Value) (o : Nat) (w : World) (a : Addr), (w.setCells b o vs).frozen? a = w.frozen? a := by
    intro vs
    induction vs with
    | nil => intro o w a; rfl
    | cons v vs ih => intro o w a; exact (ih (o + 1) _ a).trans (World.frozen?_setCell ..)
  rw [this]; exact (h k hk).2

structure PathMem (B : Nat) (w : World) (b fe : Nat) (le : Array Value) (g : Gd) (M : Nat → Bool) (mn : Nat) (F : Int → Int) (q : List Nat) (wr : World) : Prop where
  c0 : wr.cell? ⟨w.heap.size, 0, none⟩ = some (.pointer (some ⟨b, 0, none⟩))
  c1 : wr.cell? ⟨w.heap.size + 1, 0, none⟩ = some (.func (.func fe) #[] le)
  mp : MapI wr (w.heap.size + 1 + 1) mn F
  c3 : wr.cell? ⟨w.heap.size + 1 + 1 + 1, 0, none⟩ = some (.map (some (w.heap.size + 1 + 1)))
  q : ∃ v, wr.cell? ⟨w.heap.size + 1 + 1 + 1 + 1, 0, none⟩ = some v ∧ wr.frozen? ⟨w.heap.size + 1 + 1 + 1 + 1, 0, none⟩ = false ∧ ownsQ wr (w.heap.size + 1 + 1 + 1 + 1 + 1) 3 v (ints (q.map Int.ofNat))
  wk : WorkIn B wr b g
  met : MetAt wr b M
  gb : w.grownBy wr (some b)
  lt : b < w.heap.size
  ge : B ≤ b

section
variable {B : Nat} {w : World} {b fe : Nat} {le : Array Value} {g : Gd} {M : Nat → Bool} {mn : Nat} {F : Int → Int} {q : List Nat} {wr w' : World}
theorem PathMem.size (h : PathMem B w b fe le g M mn F q wr) : w.heap.size + 5 ≤ wr.heap.size := by
  obtain ⟨v, hv, _⟩ := h.q
  have := World.block_lt_of_cell? _ _ hv
  simp at this
  omega
theorem PathMem.below (h : PathMem B w b fe le g M mn F q wr) (hb : Below wr.heap.size wr w') : PathMem B w b fe le g M mn F q w' := by
  have hs := h.size
  have := h.lt
  have := h.ge
  refine ⟨cell_on hb h.c0, cell_on hb h.c1, h.mp.same (hb.block _ (by omega)), cell_on hb h.c3, ?_, h.wk.below hb (by omega), h.met.below hb, grown_below h.gb hb, h.lt, h.ge⟩
  obtain ⟨v, h1, h2, h3⟩ := h.q
  exact ⟨v, cell_on hb h1, frozen_on hb h1 h2, h3.below hb⟩
theorem PathMem.drew (h : PathMem B w b fe le g M mn F q wr) : PathMem B w b fe le g M mn F q wr.drew := h.below (Below.refl _ _).drew
theorem PathMem.steady {B' : Nat} (h : PathMem B w b fe le g M mn F q wr) (hb : Steady B' wr w') (hB : w.heap.size + 3 ≤ B') : PathMem B w b fe le g M mn F q w' := by
  have hs := h.size
  have := h.lt
  have := h.ge
  refine ⟨hb.cell h.c0, hb.cell h.c1, h.mp.same ?_, hb.cell h.c3, ?_, h.wk.steady hb, h.met.steady hb, grown_steady h.gb hb (by omega), h.lt, h.ge⟩
  · have hlt : w.heap.size + 1 + 1 < wr.heap.size := by omega
    rw [hb.same _ _ (Array.getElem?_eq_getElem hlt) (.inl (by omega)), Array.getElem?_eq_getElem hlt]
  · obtain ⟨v, h1, h2, h3⟩ := h.q
    exact ⟨v, hb.cell h1, (hb.frozen h1).trans h2, h3.steady hb⟩
theorem PathMem.more (h : PathMem B w b fe le g M mn F q wr) : PathMem B w b fe le g M (mn + 1) F q wr := ⟨h.c0, h.c1, h.mp.more, h.c3, h.q, h.wk, h.met, h.gb, h.lt, h.ge⟩
/-- a mark is set -/
theorem PathMem.mark (h : PathMem B w b fe le g M mn F q wr) {k : Nat} (hk : k < 100) : PathMem B w b fe le g (updB M k) mn F q (wr.setCell ⟨b, 3 + k, none⟩ (.bool true)) := by
  have hlt := h.lt
  have hge := h.ge
  have hs := h.size
  have hg := grownBy_setCell wr ⟨b, 3 + k, none⟩ (.bool true)
  have hb : Below B wr (wr.setCell ⟨b, 3 + k, none⟩ (.bool true)) := (Below.refl _ _).setCell (p := ⟨b, 3 + k, none⟩) hge _
  refine ⟨?_, ?_, h.mp.kept hg (by simp; omega), ?_, ?_, ⟨?_, ?_, ?_⟩, fun j hj => ⟨?_, ?_⟩, grown_but h.gb hg (fun r e => by cases e; exact .inl rfl), hlt, hge⟩
  · rw [setCell_far _ _ (by omega)]; exact h.c0
  · rw [setCell_far _ _ (by omega)]; exact h.c1
  · rw [setCell_far _ _ (by omega)]; exact h.c3
  · obtain ⟨v, h1, h2, h3⟩ := h.q
    exact ⟨v, by rw [setCell_far _ _ (by omega)]; exact h1, by rw [World.frozen?_setCell]; exact h2, h3.kept hg (fun r e => by cases e; simp; omega)⟩
  · rw [setCell_off _ _ (by omega)]; exact h.wk.c0
  · obtain ⟨v, h1, h2⟩ := h.wk.c1
    exact ⟨v, by rw [setCell_off _ _ (by omega)]; exact h1, h2.below hb⟩
  · obtain ⟨v, h1, h2⟩ := h.wk.c2
    exact ⟨v, by rw [setCell_off _ _ (by omega)]; exact h1, h2.below hb⟩
  · by_cases e : j = k
    · subst e; rw [updB_same]; exact World.cell?_setCell_same' _ _ _ (by rw [(h.met j hj).1]; rfl)
    · rw [updB_ne _ e, setCell_off _ _ (by omega)]; exact (h.met j hj).1
  · rw [World.frozen?_setCell]; exact (h.met j hj).2
/-- a place is noted -/
theorem PathMem.note {mn' : Nat} {F' : Int → Int} (h : PathMem B w b fe le g M mn F q wr) (hm : MapI w' (w.heap.size + 1 + 1) mn' F') (hg : wr.grownBy w' (some (w.heap.size + 1 + 1))) : PathMem B w b fe le g M mn' F' q w' := by
  have hlt := h.lt
  have hge := h.ge
  have hs := h.size
  have hc : ∀ {k j : Nat} {v : Value}, wr.cell? ⟨k, j, none⟩ = some v → k ≠ w.heap.size + 1 + 1 → w'.cell? ⟨k, j, none⟩ = some v := fun h hne => hg.cell h (fun e => hne (by simpa using e))
  refine ⟨hc h.c0 (by omega), hc h.c1 (by omega), hm, hc h.c3 (by omega), ?_, h.wk.grown hg (by simp; omega) (by omega) (fun r e => by cases e; omega), h.met.grown hg (by simp; omega), grown_but h.gb hg (fun r e => by cases e; exact .inr (by omega)), hlt, hge⟩
  obtain ⟨v, h1, h2, h3⟩ := h.q
  exact ⟨v, hc h1 (by omega), (hg.frozen_far ⟨w.heap.size + 1 + 1 + 1 + 1, 0, none⟩ (World.block_lt_of_cell? _ _ h1) (fun e => by simp at e; omega)).trans h2, h3.kept hg (fun r e => by cases e; omega)⟩
/-- what put leaves -/
theorem PathMem.put {v v' : Value} {w1 : World} (h : PathMem B w b fe le g M mn F q wr) (k : Nat) (hown : ownsQ wr (w.heap.size + 1 + 1 + 1 + 1 + 1) 3 v (ints (q.map Int.ofNat)))
    (hown' : ownsQ w' (w.heap.size + 1 + 1 + 1 + 1 + 1) 3 v' (ints (q.map Int.ofNat) ++ [.int .i64 k])) (hg : wr.grownBy w1 v.ownBlock) (hw' : w' = w1.setCell ⟨w.heap.size + 1 + 1 + 1 + 1, 0, none⟩ v')
    (hc : w'.cell? ⟨w.heap.size + 1 + 1 + 1 + 1, 0, none⟩ = some v') (hf : w'.frozen? ⟨w.heap.size + 1 + 1 + 1 + 1, 0, none⟩ = false) : PathMem B w b fe le g M mn F (q ++ [k]) w' := by
  have hlt := h.lt
  have hge := h.ge
  have hs := h.size
  have hrow : ∀ r, v.ownBlock = some r → w.heap.size + 1 + 1 + 1 + 1 + 1 ≤ r := fun r e => (hown.lt r e).1
  have hg2 := grownBy_setCell w1 ⟨w.heap.size + 1 + 1 + 1 + 1, 0, none⟩ v'
  have hcl : ∀ {a j : Nat} {u : Value}, wr.cell? ⟨a, j, none⟩ = some u → a < w.heap.size + 1 + 1 + 1 + 1 → w'.cell? ⟨a, j, none⟩ = some u := fun h hlt => by
    rw [hw', setCell_far _ _ (by omega)]; exact grown_cell hown hg h (by dsimp only; omega)
  have gall : w.grownBy w' (some b) := by
    rw [hw']; exact grown_but (grown_but h.gb hg (fun r e => .inr (by have := hrow r e; omega))) hg2 (fun r e => by cases e; exact .inr (by dsimp only; omega))
  have hB : Below B wr w' := by
    rw [hw']; exact (below_of_grown hg (by omega) (fun r e => by have := hrow r e; omega)).setCell (p := ⟨w.heap.size + 1 + 1 + 1 + 1, 0, none⟩) (by dsimp only; omega) _
  refine ⟨hcl h.c0 (by omega), hcl h.c1 (by omega), ?_, hcl h.c3 (by omega), ⟨v', hc, hf, by simpa [ints] using hown'⟩, ⟨hcl h.wk.c0 (by omega), ?_, ?_⟩, fun j hj => ⟨hcl (h.met j hj).1 (by omega), ?_⟩, gall, hlt, hge⟩
  · rw [hw']; exact (h.mp.kept hg (fun e => by have := hrow _ e.symm; omega)).kept hg2 (by simp)
  · obtain ⟨u, h1, h2⟩ := h.wk.c1
    exact ⟨u, hcl h1 (by omega), h2.below hB⟩
  · obtain ⟨u, h1, h2⟩ := h.wk.c2
    exact ⟨u, hcl h1 (by omega), h2.below hB⟩
  · rw [hw', World.frozen?_setCell]; exact grown_frozen hown hg (h.met j hj).1 (by dsimp only; omega) (h.met j hj).2
/-- what take leaves -/
theorem PathMem.take {v' : Value} {c : Nat} (h : PathMem B w b fe le g M mn F (c :: q) wr) (hown' : ownsQ w' (w.heap.size + 1 + 1 + 1 + 1 + 1) 3 v' (ints (q.map Int.ofNat)))
    (hw' : w' = wr.setCell ⟨w.heap.size + 1 + 1 + 1 + 1, 0, none⟩ v') (hc : w'.cell? ⟨w.heap.size + 1 + 1 + 1 + 1, 0, none⟩ = some v') (hf : w'.frozen? ⟨w.heap.size + 1 + 1 + 1 + 1, 0, none⟩ = false) : PathMem B w b fe le g M mn F q w' := by
  have hlt := h.lt
  have hge := h.ge
  have hs := h.size
  have hg2 := grownBy_setCell wr ⟨w.heap.size + 1 + 1 + 1 + 1, 0, none⟩ v'
  have hcl : ∀ {a j : Nat} {u : Value}, wr.cell? ⟨a, j, none⟩ = some u → a < w.heap.size + 1 + 1 + 1 + 1 → w'.cell? ⟨a, j, none⟩ = some u := fun h hlt => by
    rw [hw', setCell_far _ _ (by omega)]; exact h
  rw [← hw'] at hg2
  refine ⟨hcl h.c0 (by omega), hcl h.c1 (by omega), h.mp.kept hg2 (by simp), hcl h.c3 (by omega), ⟨v', hc, hf, hown'⟩, h.wk.grown hg2 (by simp; omega) (by omega) (fun r e => by cases e; dsimp only; omega), h.met.grown hg2 (by simp; omega), grown_but h.gb hg2 (fun r e => by cases e; exact .inr (by dsimp only; omega)), hlt, hge⟩
/-- what lies there ahead of the map -/
theorem PathMem.start {W0 : World} (hsz : W0.heap.size = w.heap.size + 1 + 1) (h0 : W0.cell? ⟨w.heap.size, 0, none⟩ = some (.pointer (some ⟨b, 0, none⟩))) (h1 : W0.cell? ⟨w.heap.size + 1, 0, none⟩ = some (.func (.func fe) #[] le))
    (hw : WorkIn B W0 b g) (hm : MetAt W0 b M) (hgb : w.grownBy W0 (some b)) (hlt : b < w.heap.size) (hge : B ≤ b) :
    PathMem B w b fe le g M 0 (fun _ => 0) [] (((W0.alloc (.map #[] 0)).alloc (.cells #[.map (some (w.heap.size + 1 + 1))] 151)).alloc (.cells #[.slice none 0 0] 147)) := by
  have hb : Below W0.heap.size W0 (((W0.alloc (.map #[] 0)).alloc (.cells #[.map (some (w.heap.size + 1 + 1))] 151)).alloc (.cells #[.slice none 0 0] 147)) := (((Below.refl _ W0).alloc (Nat.le_refl _) _).alloc (by simp) _).alloc (by simp; omega) _
  have hn : ∀ (w : World) (j : Nat) (v : Value), w.heap.size = j → ∀ t, (w.alloc (.cells #[v] t)).cell? ⟨j, 0, none⟩ = some v := by rintro w _ v rfl t; exact cell_new w #[v] t 0 (by simp)
  refine ⟨cell_on hb h0, cell_on hb h1, ?_, cell_al _ (hn _ _ _ (by simp; omega) _), ⟨_, hn _ _ _ (by simp; omega) _, ?_, .inl ⟨rfl, rfl⟩⟩, hw.below hb (by omega), hm.below hb, grown_below hgb hb, hlt, hge⟩
  · have h1 : MapI (W0.alloc (.map #[] 0)) (w.heap.size + 1 + 1) 0 (fun _ => 0) := by rw [← hsz]; exact MapI.made W0
    have h2 : MapI ((W0.alloc (.map #[] 0)).alloc (.cells #[.map (some (w.heap.size + 1 + 1))] 151)) (w.heap.size + 1 + 1) 0 (fun _ => 0) := h1.same (Below.heap_alloc _ _ _ (by simp; omega))
    exact h2.same (Below.heap_alloc _ _ _ (by simp; omega))
  · have := frozen_new ((W0.alloc (.map #[] 0)).alloc (.cells #[.map (some (w.heap.size + 1 + 1))] 151)) #[.slice none 0 0] 147 0 (by simp)
    rw [show (((W0.alloc (.map #[] 0)).alloc (.cells #[.map (some (w.heap.size + 1 + 1))] 151)).heap.size = w.heap.size + 1 + 1 + 1 + 1) from by simp; omega] at this
    exact this
end
theorem queue1_ints (st : Nat → Bool) (k : Nat) : (ints ((queue1 st k).map Int.ofNat)).length ≤ k := by
  have := queue1_length st k
  simp only [ints, List.length_map]; exact this
/-- the frame of path while its second loop runs, and behind it -/
def PF (w : World) (b fe fb fd : Nat) (le lb ld : Array Value) (last : Int) (a : Act) : Prop :=
  a = { tmps := #[.pointer (some ⟨b, 0, none⟩), .func (.func fe) #[] le, .func (.func fb) #[] lb, .func (.func fd) #[] ld, .pointer (some ⟨w.heap.size, 0, none⟩), .pointer (some ⟨w.heap.size + 1, 0, none⟩), Lim.sl a 6, Lim.sl a 7, .slice none 0 0, .pointer (some ⟨w.heap.size + 1 + 1 + 1, 0, none⟩), .pointer (some ⟨w.heap.size + 1 + 1 + 1 + 1, 0, none⟩), .int .i64 last, Lim.sl a 12, Lim.sl a 13, Lim.sl a 14, Lim.sl a 15, Lim.sl a 16, Lim.sl a 17, Lim.sl a 18, Lim.sl a 19, Lim.sl a 20, Lim.sl a 21, Lim.sl a 22, Lim.sl a 23, Lim.sl a 24, Lim.sl a 25, Lim.sl a 26, Lim.sl a 27, Lim.sl a 28, Lim.sl a 29, Lim.sl a 30, Lim.sl a 31, Lim.sl a 32, Lim.sl a 33, Lim.sl a 34, Lim.sl a 35, Lim.sl a 36, Lim.sl a 37, Lim.sl a 38, Lim.sl a 39, Lim.sl a 40, Lim.sl a 41, Lim.sl a 42, Lim.sl a 43, Lim.sl a 44, Lim.sl a 45, Lim.sl a 46, Lim.sl a 47, Lim.sl a 48, Lim.sl a 49, Lim.sl a 50, Lim.sl a 51, Lim.sl a 52, Lim.sl a 53, Lim.sl a 54, Lim.sl a 55, Lim.sl a 56, Lim.sl a 57, Lim.sl a 58, Lim.sl a 59, Lim.sl a 60, Lim.sl a 61, Lim.sl a 62, Lim.sl a 63, Lim.sl a 64, Lim.sl a 65, Lim.sl a 66, Lim.sl a 67, Lim.sl a 68, Lim.sl a 69, Lim.sl a 70, Lim.sl a 71, Lim.sl a 72, Lim.sl a 73, Lim.sl a 74, Lim.sl a 75, Lim.sl a 76, Lim.sl a 77, Lim.sl a 78, Lim.sl a 79, Lim.sl a 80, Lim.sl a 81, Lim.sl a 82, Lim.sl a 83, Lim.sl a 84, Lim.sl a 85, Lim.sl a 86, Lim.sl a 87, Lim.sl a 88, Lim.sl a 89, Lim.sl a 90, Lim.sl a 91, Lim.sl a 92, Lim.sl a 93, Lim.sl a 94, Lim.sl a 95, Lim.sl a 96, Lim.sl a 97, Lim.sl a 98, Lim.sl a 99, Lim.sl a 100, Lim.sl a 101, Lim.sl a 102, Lim.sl a 103, Lim.sl a 104, Lim.sl a 105, Lim.sl a 106, Lim.sl a 107, Lim.sl a 108, Lim.sl a 109, Lim.sl a 110, Lim.sl a 111, Lim.sl a 112, Lim.sl a 113, Lim.sl a 114, Lim.sl a 115, Lim.sl a 116, Lim.sl a 117, Lim.sl a 118], defers := a.defers }

/-- what lies in memory behind the search -/
structure PathOut (B : Nat) (w : World) (b : Nat) (g : Gd) (M : Nat → Bool) (mn : Nat) (F : Int → Int) (wr : World) : Prop where
  mp : MapI wr (w.heap.size + 1 + 1) mn F
  c3 : wr.cell? ⟨w.heap.size + 1 + 1 + 1, 0, none⟩ = some (.map (some (w.heap.size + 1 + 1)))
  wk : WorkIn B wr b g
  met : MetAt wr b M
  gb : w.grownBy wr (some b)
  lt : b < w.heap.size
  ge : B ≤ b
theorem PathMem.out {B : Nat} {w : World} {b fe : Nat} {le : Array Value} {g : Gd} {M : Nat → Bool} {mn : Nat} {F : Int → Int} {q : List Nat} {wr : World} (h : PathMem B w b fe le g M mn F q wr) : PathOut B w b g M mn F wr := ⟨h.mp, h.c3, h.wk, h.met, h.gb, h.lt, h.ge⟩
section
variable {B : Nat} {w : World} {b : Nat} {g : Gd} {M : Nat → Bool} {mn : Nat} {F : Int → Int} {wr w' : World}
theorem PathOut.size (h : PathOut B w b g M mn F wr) : w.heap.size + 4 ≤ wr.heap.size := by
  have := World.block_lt_of_cell? _ _ h.c3
  simp at this
  omega
theorem PathOut.grown {row : Option Nat} (h : PathOut B w b g M mn F wr) (hg : wr.grownBy w' row) (hr : ∀ r, row = some r → w.heap.size + 1 + 1 + 1 + 1 ≤ r) : PathOut B w b g M mn F w' := by
  have hs := h.size
  have hlt := h.lt
  have hge := h.ge
  refine ⟨h.mp.kept hg (fun e => by have := hr _ e.symm; omega), hg.cell h.c3 (fun e => by have := hr _ e.symm; dsimp only at this; omega), h.wk.grown hg (fun e => by have := hr _ e; omega) (by omega) (fun r e => by have := hr r e; omega), h.met.grown hg (fun e => by have := hr _ e; omega), grown_but h.gb hg (fun r e => .inr (by have := hr r e; omega)), hlt, hge⟩
theorem PathOut.below (h : PathOut B w b g M mn F wr) (hb : Below wr.heap.size wr w') : PathOut B w b g M mn F w' :=
  h.grown (⟨hb.os, hb.tape, hb.output, hb.size, fun k hk _ => hb.block k hk⟩ : wr.grownBy w' none) (fun _ e => by cases e)
end

theorem MarksLt.grown {S B' : Nat} {ds : List Deferred} {w w' : World} {row : Option Nat} (h : MarksLt S B' ds w) (hg : w.grownBy w' row) (hr : ∀ r, row = some r → r < S) : MarksLt S B' ds w' := by
  obtain ⟨Ds, h1, h2, h3⟩ := h
  refine ⟨Ds, h1, h2, fun D hD => ⟨(h3 D hD).1, (h3 D hD).2.1, (hg.block D (Array.getElem?_eq_some_iff.1 (h3 D hD).2.2).1 (fun e => ?_)).trans (h3 D hD).2.2⟩⟩
  have := hr D e.symm
  have := (h3 D hD).1
  omega
/-- the queue's block lies apart from the blocks from lo on, below hi -/
def ApartR (q lo hi : Nat) (W : World) : Prop := ∀ v g, W.cell? ⟨q, 0, none⟩ = some v → v.ownBlock = some g → g < lo ∨ hi ≤ g
theorem ApartR.of_cell {q lo hi : Nat} {W W' : World} {v : Value} (h : ApartR q lo hi W) (hv : W.cell? ⟨q, 0, none⟩ = some v) (hv' : W'.cell? ⟨q, 0, none⟩ = some v) : ApartR q lo hi W' := fun u g hu hg => h u g (hv.trans (hv'.symm.trans hu)) hg
theorem putRow_grown {α : Type} [Inhabited α] (enc : α → Value) (w : World) (n blk off : Nat) (d : Array α) : w.grownBy (Sort.putRow enc (Sort.ahead w n) blk off d) (some blk) := by
  refine ⟨rfl, rfl, rfl, by rw [Sort.size_putRow]; exact Nat.le_refl _, fun k hk hne => ?_⟩
  have hb : blk ≠ k := fun e => hne (by rw [e])
  simp [Sort.putRow, Sort.mapBlock, Sort.ahead, Array.getElem?_modify, hb]
/-- a list of numbers that the call made is turned round -/
theorem reverse_any {base : Nat} {v : Value} {L : List Int} {w : World} (hn : L.length ≤ 100000) (h : w.ownsRow base 3 1 v L.length (ints L)) :
    Calls Try.prog 104 #[v] w fun e w' => e = .returned (.tuple #[]) ∧ w'.ownsRow base 3 1 v L.length (ints L.reverse) ∧ w.grownBy w' v.ownBlock := by
  rcases h.2 with ⟨rfl, h0⟩ | ⟨gg, cap, cur, rfl, hb, hg, hr1, hr2, hr3, ht⟩
  · have hL : L = [] := by cases L <;> simp_all [ints]
    subst hL
    exact (Try.slices_Reverse_int_empty none 0 w).mono (by rintro e w' ⟨rfl, rfl⟩; exact ⟨rfl, h, .refl _ _⟩)
  · have hcl : cur.size = cap := by omega
    have hat : ∀ j, j < L.length → cur[j]? = some (.int .i64 L[j]!) := by
      intro j hj
      have h1 : (cur.toList.take (L.length * 1))[j]? = (ints L)[j]? := by rw [ht]
      rw [List.getElem?_take, if_pos (by omega), ints_at L j hj] at h1
      rw [getElem!_pos L j hj]; simpa using h1
    have hH : Sort.Holds (Value.int .i64) w gg 0 L.toArray := by
      intro j hj
      have hj : j < L.length := by simpa using hj
      refine ⟨?_, ?_⟩
      · simp only [World.cell?, hg, Nat.zero_add]
        rw [hat j hj]; simp
      · simp [World.frozen?, hg]
    refine (Try.slices_Reverse_int gg 0 cap L w hH (by omega)).mono ?_
    rintro e w' ⟨rfl, n, rfl⟩
    refine ⟨rfl, ⟨by simp [ints], .inr ⟨gg, cap, Sort.putCells (.int .i64) 0 L.reverse.toArray cur, rfl, hb, ?_, hr1, hr2, by simp [Sort.putCells]; omega, ?_⟩⟩, putRow_grown _ _ _ _ _ _⟩
    · simp [Sort.putRow, Sort.mapBlock, Sort.ahead, Array.getElem?_modify, hg, Sort.onCells]
    · apply List.ext_getElem?
      intro j
      rw [List.getElem?_take]
      by_cases hj : j < L.length
      · have hjc : j < cur.size := by omega
        rw [if_pos (by omega), ints_at _ j (by simpa using hj)]
        simp [Sort.putCells, hjc, hj]
      · rw [if_neg (by omega), List.getElem?_eq_none (by simp [ints]; omega)]
end Go.Proofs.Ytdgibmgifgdpbaa
/-
  A way through cells: the contract of ridge's method path.
-/
namespace Go.Proofs.Ytdgibmgifgdpbaa
open Go.RowKit Go.Shelf
open Lim
attribute [local go_sem] Oper.semAt_some

/-- the function with closure lb answers p of each cell, while ground b is at work -/
def Asks (B b f : Nat) (lb : Array Value) (g : Gd) (p : Nat → Bool) (w : World) : Prop :=
  ∀ k, k < g.ss.length → ∀ W, w.grownBy W (some b) → WorkIn B W b g → Calls Try.prog f (#[.int .i64 k] ++ lb) W fun e W' => e = .returned (.bool (p k)) ∧ Below W.heap.size W W'

theorem zero_bool (w : World) : (zeroValue 4).run Try.prog w = .ok (.bool false) w := by kernel_rfl

/-- what path answers -/
def PathAns (B b : Nat) (w : World) (g : Gd) (A Bg : Nat → Prop) (ed : Nat → Bool) (e : Ending) (w' : World) : Prop :=
  w.grownBy w' (some b) ∧ WorkIn B w' b g ∧ ∃ v M, e = .returned v ∧ MetAt w' b M ∧ ((v = .slice none 0 0 ∧ (∀ c, Re g A Bg c → ed c = false) ∧ (∀ c, M c = true ↔ Re g A Bg c)) ∨
    ∃ L : List Nat, IsWay g A Bg ed L ∧ w'.ownsRow w.heap.size 3 1 v L.length (ints (L.map Int.ofNat)))
theorem owns_nil_of {w : World} {base e : Nat} {v : Value} {xs : List Value} (h : w.ownsRow base e 1 v 0 xs) : ∃ a c, v = .slice a 0 c := by
  rcases h.2 with ⟨rfl, _⟩ | ⟨g, cap, cur, rfl, _⟩
  · exact ⟨_, _, rfl⟩
  · exact ⟨_, _, rfl⟩
theorem keeps_of_row {w w1 : World} {base e size : Nat} {v : Value} {n : Nat} {xs : List Value} (h : w.ownsRow base e size v n xs) (hg : w.grownBy w1 v.ownBlock) : KeepsOthers w w1 := by
  refine .of_grownBy hg (fun j o hj ho => ?_)
  rcases h.2 with ⟨rfl, _⟩ | ⟨g, cap, cur, rfl, hb, hgg, _⟩
  · simp [Value.ownBlock] at hj
  · simp [Value.ownBlock] at hj
    subst hj
    rw [hgg] at ho; cases ho; rfl

theorem results_one {P : Program} {fn : Func} {p : Tmp} (h : fn.results = #[.tmp p]) (tmps : Array Value) (w : World) {v : Value} (hv : tmps.getD p undef = v) : (results fn tmps).run P w = .ok v w := by
  subst hv
  simp [results, h]
def noPanic (Q : Exit → Act → World → Prop) : Exit → Act → World → Prop
  | .panic _, _, _ => False
  | e, a, w => Q e a w
theorem wp_noPanic {P : Program} {c : Code} {Q : Exit → Act → World → Prop} {a : Act} {w : World} (h : c.wp P (noPanic Q) a w) : c.wp P Q a w := by
  refine wp_mono h ?_
  intro e a w h
  cases e <;> first | exact h | exact h.elim

set_option maxRecDepth 100000 in
set_option maxHeartbeats 1000000 in
theorem path_any {B b fe fb fd : Nat} {le lb ld : Array Value} {g : Gd} {en bn ed : Nat → Bool} {w : World} {M : Nat → Bool} (hg : g.Ok) (hB : B ≤ b) (hw : WorkIn B w b g) (hm : MetAt w b M)
    (ege : ∀ args w, (callFunc fe args).run Try.prog w = .ok (.enter fe args) w) (egb : ∀ args w, (callFunc fb args).run Try.prog w = .ok (.enter fb args) w) (egd : ∀ args w, (callFunc fd args).run Try.prog w = .ok (.enter fd args) w)
    (he : Asks B b fe le g en w) (hb : Asks B b fb lb g bn w) (hd : Asks B b fd ld g ed w) :
    Calls Try.prog 87 #[.pointer (some ⟨b, 0, none⟩), .func (.func fe) #[] le, .func (.func fb) #[] lb, .func (.func fd) #[] ld] w fun e w' => PathAns B b w g (fun c => land g c ∧ en c = true) (fun c => bn c = true) ed e w' := by
  have hbw := hw.lt
  have hn : g.ss.length ≤ 100 := hg.n1
  have HW := Lib.hid (And.intro hw hm)
  have HA := Lib.hid (And.intro he (And.intro hb hd))
  obtain ⟨hc0, ⟨hv, hc1, ha, hcap, rfl, hha⟩, ⟨sv, hc2, sa, scap, rfl, hsa⟩⟩ := hw
  have HH := Lib.hid (And.intro hha hsa)
  clear hha hsa hm he hb hd
  refine (callsIn_wide (n := 2)).1 (callsIn_of_wp_marks Try.func87 rfl trivial ?_ rfl)
  simp only [Try.ntmps87, List.size_toArray, List.length_cons, List.length_nil, Nat.reduceAdd, Nat.reduceSub, Array.replicate_succ, Array.replicate_zero, List.push_toArray, List.append_toArray, List.nil_append, List.cons_append]
  refine wpIn_wide.2 ?_
  refine wp_noPanic ?_
  have hb0 : Below w.heap.size w ((w.alloc (.cells #[.pointer (some ⟨b, 0, none⟩)] 98)).alloc (.cells #[.func (.func fe) #[] le] 118)) := ((Below.refl _ w).alloc (Nat.le_refl _) _).alloc (by simp) _
  have m2 : MetAt ((w.alloc (.cells #[.pointer (some ⟨b, 0, none⟩)] 98)).alloc (.cells #[.func (.func fe) #[] le] 118)) b M := HW.out.2.below hb0
  have hcl : ∀ ty, (Builtin.clear_ #[72] ty #[.slice (some ⟨b, 3, none⟩) 100 100]).run Try.prog ((w.alloc (.cells #[.pointer (some ⟨b, 0, none⟩)] 98)).alloc (.cells #[.func (.func fe) #[] le] 118)) = .ok (.tuple #[]) (((w.alloc (.cells #[.pointer (some ⟨b, 0, none⟩)] 98)).alloc (.cells #[.func (.func fe) #[] le] 118)).setCells b 3 falses) :=
    fun ty => Lib.run_clear_slice _ 72 4 ty (.bool false) Try.underlying72 zero_bool rfl rfl b 3 100 100 (by decide) (fun j hj => by rw [(m2 j hj).1]; rfl) (fun j hj => (m2 j hj).2)
  have g2 : w.grownBy (((w.alloc (.cells #[.pointer (some ⟨b, 0, none⟩)] 98)).alloc (.cells #[.func (.func fe) #[] le] 118)).setCells b 3 falses) (some b) := grown_clear hb0 b 3 falses
  have w2 : WorkIn B (((w.alloc (.cells #[.pointer (some ⟨b, 0, none⟩)] 98)).alloc (.cells #[.func (.func fe) #[] le] 118)).setCells b 3 falses) b g := work_clear (HW.out.1.below hb0 (by omega)) hB trivial falses
  have t2 : MetAt (((w.alloc (.cells #[.pointer (some ⟨b, 0, none⟩)] 98)).alloc (.cells #[.func (.func fe) #[] le] 118)).setCells b 3 falses) b (fun _ => false) := met_clear m2
  have c2 : (((w.alloc (.cells #[.pointer (some ⟨b, 0, none⟩)] 98)).alloc (.cells #[.func (.func fe) #[] le] 118)).setCells b 3 falses).cell? ⟨w.heap.size, 0, none⟩ = some (.pointer (some ⟨b, 0, none⟩)) := by
    rw [cells_far (by omega)]; simp [go_sem]
  have c3 : (((w.alloc (.cells #[.pointer (some ⟨b, 0, none⟩)] 98)).alloc (.cells #[.func (.func fe) #[] le] 118)).setCells b 3 falses).cell? ⟨w.heap.size + 1, 0, none⟩ = some (.func (.func fe) #[] le) := by
    rw [cells_far (by omega)]; simp [go_sem]
  have s2 : (((w.alloc (.cells #[.pointer (some ⟨b, 0, none⟩)] 98)).alloc (.cells #[.func (.func fe) #[] le] 118)).setCells b 3 falses).heap.size = w.heap.size + 1 + 1 := by rw [size_setCells]; simp
  clear m2 hb0
  have H2 := Lib.hid (And.intro g2 (And.intro w2 t2))
  clear g2 w2 t2
  go_wp2_with fail
  refine wp_scope_straight ?_
  go_wp2_with (simp only [hcl])
  clear hcl
  generalize hW : World.setCells _ _ _ _ = W0 at *
  rw [run_makeMap]
  clear hW
  have M0 := PathMem.start s2 c2 c3 H2.out.2.1 H2.out.2.2 H2.out.1 hbw hB
  obtain ⟨hv1, q1, ha1, hcap1, rfl, -⟩ := M0.wk.c1
  rw [hg.hn] at q1
  obtain ⟨a0, b0, d0⟩ := HA.out
  have HS : Hid (∀ k, k < g.n → ((g.ss.getD k 0 == 0 && en k && bn k) = true ↔ (land g k ∧ en k = true) ∧ bn k = true)) := Lib.hid (fun k hk => by simp [land, hk, and_assoc])
  clear a0 b0 d0
  go_wp2_with fail
  generalize hW : World.alloc _ _ = W3
  rw [hW] at M0
  clear hW H2 q1 c2 c3 s2
  go_loopw [28] (fun i wr => ∃ k : Nat, k ≤ g.ss.length ∧ i = .int .i64 k ∧ PathMem B w b fe le g (met1 (fun k => g.ss.getD k 0 == 0 && en k && bn k) k) k (from1 (fun k => g.ss.getD k 0 == 0 && en k && bn k) k) (queue1 (fun k => g.ss.getD k 0 == 0 && en k && bn k) k) wr) (fun i _ => g.ss.length - (intOf i).toNat)
  case atStart => exact ⟨0, Nat.zero_le _, rfl, by rw [met1_zero, from1_zero]; exact M0⟩
  case round =>
    clear M0
    obtain ⟨k, hk, rfl, M⟩ := hrel
    by_cases hlt : k < g.ss.length
    · obtain ⟨sv, q2, sa', scap', rfl, hsc⟩ := M.wk.c2
      obtain ⟨sb, soff, rfl, hsb, hsc⟩ := hsc (ints_ne (by omega))
      obtain ⟨z, hz⟩ : ∃ z, z = g.ss.getD k 0 := ⟨_, rfl⟩
      have q0 : wr.cell? ⟨sb, soff + k, none⟩ = some (.int .i64 z) := by rw [hz]; exact hsc k _ (ints_at' _ _ hlt)
      have HX := Lib.hid hz
      clear hz hsc
      have m0 := M.c0
      have m1 := M.c1
      have skip : ∀ wx : World, (g.ss.getD k 0 == 0 && en k && bn k) = false → PathMem B w b fe le g (met1 (fun k => g.ss.getD k 0 == 0 && en k && bn k) k) k (from1 (fun k => g.ss.getD k 0 == 0 && en k && bn k) k) (queue1 (fun k => g.ss.getD k 0 == 0 && en k && bn k) k) wx →
          PathMem B w b fe le g (met1 (fun k => g.ss.getD k 0 == 0 && en k && bn k) (k + 1)) (k + 1) (from1 (fun k => g.ss.getD k 0 == 0 && en k && bn k) (k + 1)) (queue1 (fun k => g.ss.getD k 0 == 0 && en k && bn k) (k + 1)) wx := by
        intro wx hs hM
        rw [← met1_skip hs, ← from1_skip hs, queue1_skip hs]
        exact hM.more
      have SK := Lib.hid skip
      clear skip
      by_cases hz0 : z = 0
      · subst hz0
        go_wp2_with fail
        refine (HA.out.1 k hlt wr M.gb M.wk).mono ?_
        rintro e w2 ⟨rfl, hb2⟩
        have M2 := M.below hb2
        clear hb2 M m0 m1 q0 q2
        cases hen : en k with
        | true =>
          go_wp2_with fail
          refine (HA.out.2.1 k hlt w2 M2.gb M2.wk).mono ?_
          rintro e w3 ⟨rfl, hb3⟩
          have M3 := M2.below hb3
          clear hb3 M2
          have m0 := M3.c0
          have m3 := M3.c3
          cases hbn : bn k with
          | true =>
            have HY : Hid ((g.ss.getD k 0 == 0 && en k && bn k) = true) := Lib.hid (by rw [← HX.out, hen, hbn]; rfl)
            clear hen hbn
            have hk0 : (k : Int) < 100 := by omega
            obtain ⟨m4, m5⟩ := M3.met k (by omega)
            have M4 := (M3.mark (k := k) (by omega)).drew
            obtain ⟨w4, hrun, hmap, hgr⟩ := M4.mp.update (c := k) (v := -1) (by unfold maxLen; omega) (WalkArith.wf_i64 ⟨by omega, by omega⟩) (by decide)
            have M5 := M4.note hmap hgr
            clear hmap hgr
            have hC3 : (fun W => W.cell? ⟨w.heap.size, 0, none⟩ = some (.pointer (some ⟨b, 0, none⟩)) ∧ W.cell? ⟨w.heap.size + 1 + 1 + 1, 0, none⟩ = some (.map (some (w.heap.size + 1 + 1)))) w4 := ⟨M5.c0, M5.c3⟩
            have hC2 : (fun W => W.cell? ⟨w.heap.size, 0, none⟩ = some (.pointer (some ⟨b, 0, none⟩)) ∧ W.cell? ⟨w.heap.size + 1 + 1 + 1, 0, none⟩ = some (.map (some (w.heap.size + 1 + 1)))) (w3.setCell ⟨b, 3 + k, none⟩ (.bool true)).drew := ⟨M4.c0, M4.c3⟩
            go_wp2_with fail
            have hC : (fun W => W.cell? ⟨w.heap.size, 0, none⟩ = some (.pointer (some ⟨b, 0, none⟩)) ∧ W.cell? ⟨w.heap.size + 1 + 1 + 1, 0, none⟩ = some (.map (some (w.heap.size + 1 + 1)))) w3.drew := ⟨m0, m3⟩
            refine Lim.regC' (fun W => W.cell? ⟨w.heap.size, 0, none⟩ = some (.pointer (some ⟨b, 0, none⟩)) ∧ W.cell? ⟨w.heap.size + 1 + 1 + 1, 0, none⟩ = some (.map (some (w.heap.size + 1 + 1)))) [] #[false, false, false, false, false, false, false, false, false] (by kernel_rfl) rfl ?_
            refine Lim.stepR 0 (fun _ => trivial) rfl (by kernel_rfl) (fun _ _ _ _ h => h) hC rfl ?_; apply Exists.intro; refine ⟨?_, ?_⟩
            · rintro w ⟨r1, r2⟩; go_simp; try with_reducible rfl
            simp only [Act.put, List.setIfInBounds_toArray, List.set_cons_succ, List.set_cons_zero]
            refine Lim.stepR 1 (fun _ => trivial) rfl (by kernel_rfl) (fun _ _ _ _ h => h) hC rfl ?_; apply Exists.intro; refine ⟨?_, ?_⟩
            · rintro w ⟨r1, r2⟩; go_simp; try with_reducible rfl
            simp only [Act.put, List.setIfInBounds_toArray, List.set_cons_succ, List.set_cons_zero]
            refine Lim.stepR 2 (fun _ => trivial) rfl (by kernel_rfl) (fun _ _ _ _ h => h) hC rfl ?_; apply Exists.intro; refine ⟨?_, ?_⟩
            · rintro w ⟨r1, r2⟩; go_simp; try with_reducible rfl
            simp only [Act.put, List.setIfInBounds_toArray, List.set_cons_succ, List.set_cons_zero]
            refine Lim.stepR 3 (fun _ => trivial) rfl (by kernel_rfl) (fun _ _ _ _ h => h) hC rfl ?_; apply Exists.intro; refine ⟨?_, ?_⟩
            · rintro w ⟨r1, r2⟩; go_simp; try with_reducible rfl
            simp only [Act.put, List.setIfInBounds_toArray, List.set_cons_succ, List.set_cons_zero]
            refine Lim.stepR 4 (fun _ => trivial) rfl (by kernel_rfl) (fun _ _ _ _ h => h) hC rfl ?_; apply Exists.intro; refine ⟨?_, ?_⟩
            · rintro w ⟨r1, r2⟩; go_simp; try with_reducible rfl
            simp only [Act.put, List.setIfInBounds_toArray, List.set_cons_succ, List.set_cons_zero]
            refine Lim.stepR 5 (fun _ => trivial) rfl (by kernel_rfl) (fun _ _ _ _ h => h) hC rfl ?_; apply Exists.intro; refine ⟨?_, ?_⟩
            · rintro w ⟨r1, r2⟩; go_simp; try with_reducible rfl
            simp only [Act.put, List.setIfInBounds_toArray, List.set_cons_succ, List.set_cons_zero]
            refine Lim.stepR 6 (fun _ => trivial) rfl (by kernel_rfl) (fun _ _ _ _ h => h) hC rfl ?_; apply Exists.intro; refine ⟨?_, ?_⟩
            · rintro w ⟨r1, r2⟩; go_simp; try with_reducible rfl
            simp only [Act.put, List.setIfInBounds_toArray, List.set_cons_succ, List.set_cons_zero]
            refine Lim.stepE 7 (fun _ => trivial) rfl (by kernel_rfl) rfl (fun K hK => ?_)   -- E store
            go_simp
            refine hK _ _ hC2 ?_
            simp only [Act.put, List.setIfInBounds_toArray, List.set_cons_succ, List.set_cons_zero]
            refine Lim.stepE 8 (fun _ => trivial) rfl (by kernel_rfl) rfl (fun K hK => ?_)   -- E mapUpdate
            go_simp
            refine hK _ _ hC3 ?_
            simp only [Act.put, List.setIfInBounds_toArray, List.set_cons_succ, List.set_cons_zero]
            refine Lim.stepD (by kernel_rfl) ?_
            clear hC hC2 hC3 hrun m0 m3 m4 m5 M3 M4
            obtain ⟨v, hv, hf, hown⟩ := M5.q
            go_wp2_with fail
            refine (put_any hv hf hown (by omega) (by have := M5.size; omega) (Nat.le_trans (queue1_ints _ _) (by omega))).mono ?_
            rintro e w5 ⟨rfl, v', w1, hown', hgr, hw', hc, hf', -⟩
            have M6 := M5.put k hown hown' hgr hw' hc hf'
            clear hown hown' hgr hw' hc hf' hv hf M5
            go_wp2
            go_roundw
            case rel =>
              refine ⟨k + 1, by omega, by go_num, ?_⟩
              rw [← met1_add HY.out, ← from1_add HY.out, queue1_add HY.out]
              exact M6
            case measure => simp [intOf]; omega
          | false =>
            have HY : Hid ((g.ss.getD k 0 == 0 && en k && bn k) = false) := Lib.hid (by rw [hbn]; simp)
            clear hen hbn
            go_wp2
            go_roundw
            case rel => exact ⟨k + 1, by omega, by go_num, SK.out _ HY.out M3⟩
            case measure => simp [intOf]; omega
        | false =>
          have HY : Hid ((g.ss.getD k 0 == 0 && en k && bn k) = false) := Lib.hid (by rw [hen]; simp)
          clear hen
          go_wp2
          go_roundw
          case rel => exact ⟨k + 1, by omega, by go_num, SK.out _ HY.out M2⟩
          case measure => simp [intOf]; omega
      · have hz1 : (z == 0) = false := by simpa using hz0
        have HY : Hid ((g.ss.getD k 0 == 0 && en k && bn k) = false) := Lib.hid (by rw [← HX.out]; simp [hz0])
        go_wp2
        go_roundw
        case rel => exact ⟨k + 1, by omega, by go_num, SK.out _ HY.out M⟩
        case measure => simp [intOf]; omega
    · obtain rfl : k = g.ss.length := by omega
      go_wp2_with fail
      refine wp_label ?_
      go_wp2_with fail
      rename_i K2 hK2
      have rest : ∀ (last : Int) (M : Nat → Bool) (F : Int → Int) (mn : Nat) (rk : Nat → Nat) (t : Nat) (q : List Nat) (a : Act) (W : World), PF w b fe fb fd le lb ld last a → Marks (w.heap.size + 5) a.defers W → PathOut B w b g M mn F W →
          Hid (BBase g (fun c => land g c ∧ en c = true) (fun c => bn c = true) M F rk t q ∧ t ≤ 201 ∧ ((last = -1 ∧ (∀ c, Re g (fun c => land g c ∧ en c = true) (fun c => bn c = true) c → ed c = false) ∧ (∀ c, M c = true ↔ Re g (fun c => land g c ∧ en c = true) (fun c => bn c = true) c)) ∨ ∃ c : Nat, last = c ∧ M c = true ∧ ed c = true)) → K2 a W := by
        clear M
        intro last M F mn rk t q a W hfr hm O hI
        refine hK2 _ _ ?_
        clear hK2
        unfold PF at hfr
        generalize a.defers = ds at hfr hm
        generalize Lim.sl a = x at hfr
        subst hfr
        go_wp2_with fail
        obtain ⟨i0, hi, hz0, hz1, hz2⟩ := info_parts Try.infoInt
        have HF := Lib.hid (And.intro hi (And.intro hz0 (And.intro hz1 hz2)))
        clear hi hz0 hz1 hz2
        have hos := O.size
        go_loopw [15, 16] (fun v i wr => ∃ (L : List Nat) (x : Int), i = .int .i64 x ∧ wr.ownsRow (w.heap.size + 1 + 1 + 1 + 1) 3 1 v L.length (ints (L.map Int.ofNat)) ∧ PathOut B w b g M mn F wr ∧ Marks (w.heap.size + 5) ds wr ∧
          Hid (((x = -1 ∧ L = [] ∧ last = -1) ∨ ∃ lc : Nat, last = lc ∧ Back g (fun c => bn c = true) M rk lc L x) ∧ (L = [] → v = .slice none 0 0) ∧ L.length + (if x = -1 then 0 else rk x.toNat + 1) ≤ 300)) (fun _ i _ => if intOf i = -1 then 0 else rk (intOf i).toNat + 1)
        case atStart =>
          refine ⟨[], last, rfl, World.ownsRow_nil _ _ _ _, O, hm, Lib.hid ⟨?_, fun _ => rfl, ?_⟩⟩
          · rcases hI.out.2.2 with ⟨h1, -⟩ | ⟨c, h1, h2, h3⟩
            · exact .inl ⟨h1, rfl, h1⟩
            · exact .inr ⟨c, h1, by rw [h1]; exact Back.start h2⟩
          · rcases hI.out.2.2 with ⟨h1, -⟩ | ⟨c, h1, h2, h3⟩
            · rw [if_pos h1]; simp
            · have h4 := hI.out.1.rank c h2
              have h5 := hI.out.2.1
              rw [if_neg (by omega), h1]; simp; omega
        case round =>
          obtain ⟨L, y, rfl, hown, O1, hm1, hP⟩ := hrel
          clear O hm hos
          have hos := O1.size
          by_cases hy : y = -1
          · subst hy
            have hlen : L.length ≤ 300 := by have := hP.out.2.2; omega
            have HO := Lib.hid hown
            clear hown
            go_wp2_with fail
            refine (reverse_any (L := L.map Int.ofNat) (by rw [List.length_map]; omega) (by rw [List.length_map]; exact HO.out)).mono ?_
            rintro e w9 ⟨rfl, hown9, hgr9⟩
            have O9 := O1.grown hgr9 (fun r e => (HO.out.lt r e).1)
            have hm9 := hm1.keep (keeps_of_row HO.out hgr9)
            have HO9 := Lib.hid hown9
            clear hgr9 hown9 hm1 O1
            go_wp2
            refine leaves_marks (B := w.heap.size + 5) _ hm9 (fun w' hs => ⟨_, results_one (fn := Try.f87) rfl _ _ rfl, grown_steady O9.gb hs (by omega), O9.wk.steady hs, _, M, rfl, O9.met.steady hs, ?_⟩)
            rcases hP.out.1 with ⟨-, hL, hl⟩ | ⟨lc, hl, hbk⟩
            · rcases hI.out.2.2 with ⟨-, h2, h3⟩ | ⟨c, h1, -⟩
              · refine .inl ⟨?_, h2, h3⟩
                exact hP.out.2.1 hL
              · omega
            · rcases hI.out.2.2 with ⟨h1, -⟩ | ⟨c, h1, h2, h3⟩
              · omega
              · refine .inr ⟨L.reverse, hbk.way hI.out.1 (by have : lc = c := by omega
                                                             rw [this]; exact h3), ?_⟩
                have := hs.owns (owns_mono HO9.out (base' := w.heap.size) (by omega))
                simpa using this
          · have hy1 : (y == -1) = false := by rw [beq_eq_false_iff_ne]; exact hy
            have hy2 : (y != -1) = true := by simp [bne, hy1]
            have HY : Hid (∃ p : Nat, y = p ∧ M p = true ∧ p < g.n) := Lib.hid (by
              rcases hP.out.1 with ⟨h1, -⟩ | ⟨lc, hl, hbk⟩
              · exact absurd h1 hy
              · rcases hbk.next with ⟨h1, -⟩ | ⟨p, h1, h2, h3⟩
                · exact absurd h1 hy
                · exact ⟨p, h1, h2, (hI.out.1.ins p h2).1⟩)
            obtain ⟨p, hyp, hMp, hpn⟩ := HY.out
            clear HY
            subst hyp
            have hpn2 : p < g.ss.length := hpn
            have hpr : (Lit.int .i64 (p : Int)).wf = true := WalkArith.wf_i64 ⟨by omega, by omega⟩
            have HPR := Lib.hid hpr
            have HL : Hid (L.length ≤ 300) := Lib.hid (by have := hP.out.2.2; omega)
            have HO := Lib.hid hown
            have HM := Lib.hid hMp
            clear hown hMp hpr hpn
            go_wp2_with (at_builtin; refine wpList_append_own _ rfl _ _ 23 rfl (w.heap.size + 1 + 1 + 1 + 1) 3 i0 (.int .i64 0) 1 8 Try.underlying23 HF.out.1 HF.out.2.1 HF.out.2.2.1 HF.out.2.2.2 rfl (by decide) _ _ _ rfl (HO.out.alloc _) ⟨wr.heap.size, 0, none⟩ 1 1 [.int .i64 p] rfl rfl (cell_one_new _ _ _) (by simp [Value.oneCell']) (by have := HL.out; unfold maxLen; omega) (by have := HL.out; omega) (by simp; omega) ?_; intro v' w3 hown3 hgrow _; have O3 := (O1.below ((Below.refl _ wr).alloc (Nat.le_refl _) _)).grown hgrow (fun r e => (((HO.out.alloc (.cells #[.int .i64 p] 3)).lt r e).1)); have c3 := O3.c3; have hlk := O3.mp.lookup HPR.out; have HW3 := Lib.hid (And.intro hown3 hgrow); clear hown3 hgrow)
            have HLK : Hid ((F p = -1 ∨ ∃ p' : Nat, F p = p' ∧ rk p' < rk p)) := Lib.hid (by
              rcases hI.out.1.link p HM.out with ⟨h1, -⟩ | ⟨p', h1, -, -, h2⟩
              · exact .inl h1
              · exact .inr ⟨p', h1, h2⟩)
            go_roundw
            case rel =>
              refine ⟨L ++ [p], F p, rfl, ?_, O3, hm1.keep ((keeps_of_below ((Below.refl _ wr).alloc (Nat.le_refl _) _)).trans (keeps_of_row (HO.out.alloc _) HW3.out.2)), Lib.hid ⟨?_, ?_, ?_⟩⟩
              · have := HW3.out.1
                simpa [ints] using this
              · rcases hP.out.1 with ⟨h1, -⟩ | ⟨lc, hl, hbk⟩
                · omega
                · exact .inr ⟨lc, hl, hbk.step hI.out.1⟩
              · intro h; simp at h
              · have h2 := hP.out.2.2
                rw [if_neg (by omega)] at h2
                simp only [Int.toNat_natCast] at h2
                rcases HLK.out with h1 | ⟨p', h1, h3⟩
                · rw [if_pos h1]; simp; omega
                · rw [if_neg (by omega), h1]; simp; omega
            case measure =>
              simp only [intOf]
              rcases HLK.out with h1 | ⟨p', h1, h3⟩
              · first | (simp [h1]; done) | (simp [h1]; omega)
              · first | (simp [h1]; done) | (simp [h1]; omega)
      have HR := Lib.hid rest
      clear rest
      have HI := Lib.hid (BInv.begin (En := ed) HS.out (fun k hk => hk.1.1))
      have HQ := Lib.hid (queue1_length (fun k => g.ss.getD k 0 == 0 && en k && bn k) g.ss.length)
      refine wp_loop_ghost_k (fun m a W => ∃ M F mn rk t q, PF w b fe fb fd le lb ld (-1) a ∧ Marks (w.heap.size + 5) a.defers W ∧ PathMem B w b fe le g M mn F q W ∧ Hid (BInv g (fun c => land g c ∧ en c = true) (fun c => bn c = true) ed M F rk t q ∧ meas g.ss.length (unmet M) q = m ∧ m ≤ 300 ∧ mn + sumTo (unmet M) g.ss.length ≤ 200 ∧ t ≤ mn + 1)) _ ⟨_, _, _, _, _, _, rfl, Marks.nil _ _, M, Lib.hid ⟨HI.out, rfl, ?bound⟩⟩ ?_
      case bound =>
        have h1 := sumTo_le (unmet (met1 (fun k => g.ss.getD k 0 == 0 && en k && bn k) g.ss.length)) 1 g.ss.length (fun k hk => by unfold unmet; split <;> omega)
        have h2 := HQ.out
        simp only [meas]
        refine ⟨?_, ?_, ?_⟩ <;> omega
      clear M HI HQ
      rintro m a W ⟨M, F, mn, rk, t, q, hfr, hm, MM, hI⟩ J K hJ hK
      unfold PF at hfr
      generalize a.defers = ds at hfr hm
      generalize Lim.sl a = x at hfr
      subst hfr
      clear hK2
      have HJ := Lib.hid (And.intro hJ hK)
      clear hJ hK
      have HAn : Hid (∀ c, (land g c ∧ en c = true) → c < g.n) := Lib.hid (fun c h => h.1.1)
      obtain ⟨v, hv, hf, hown⟩ := MM.q
      cases q with
      | nil =>
        obtain ⟨ta', cap', rfl⟩ := hown.len
        have hv : W.cell? ⟨w.heap.size + 1 + 1 + 1 + 1, 0, none⟩ = some (.slice ta' 0 cap') := hv
        clear hown
        go_wp2_with fail
        exact HR.out (-1) M F mn rk t [] _ _ rfl hm MM.out (Lib.hid ⟨hI.out.1.toBBase, by have := hI.out.2; omega, .inl ⟨rfl, hI.out.1.none hg HAn.out, hI.out.1.met hg HAn.out⟩⟩)
      | cons c q =>
        have hv : W.cell? ⟨w.heap.size + 1 + 1 + 1 + 1, 0, none⟩ = some v := hv
        obtain ⟨ta', cap', hvv⟩ := hown.len
        obtain ⟨L, hL⟩ : ∃ L, L = (ints ((c :: q).map Int.ofNat)).length := ⟨_, rfl⟩
        rw [← hL] at hvv
        subst hvv
        have hz0 : 0 < L := by rw [hL]; simp [ints]
        clear hL
        have hmq : 2 * sumTo (unmet M) g.ss.length + (q.length + 1) = m := by simpa [meas] using hI.out.2.1
        have hql : (ints (q.map Int.ofNat)).length ≤ 4000000 := by have := hI.out.2.2; simp [ints]; omega
        have HMQ := Lib.hid hmq
        clear hmq
        have hMc : M c = true := hI.out.1.wait c (by simp)
        have HMC := Lib.hid hMc
        have hcn : c < g.ss.length := (hI.out.1.ins c hMc).1
        clear hMc
        go_wp2_with fail
        refine (take_any hv hf hown (by omega) hql).mono ?_
        rintro e w2 ⟨rfl, v', hown', hw', hc', hf'⟩
        have M2 := MM.take hown' hw' hc' hf'
        have hm2 : Marks (w.heap.size + 5) ds w2 := hm.keep (by rw [hw']; exact KeepsOthers.setCell _ _ _)
        clear hown' hw' hc' hf' hv hf hown hm hz0 hql
        have hsz2 : w.heap.size + 5 ≤ w2.heap.size := M2.size
        have hB3 : Below w2.heap.size w2 (w2.alloc (.cells #[.int .i64 c] 3)) := (Below.refl _ w2).alloc (Nat.le_refl _) _
        have M3 := M2.below hB3
        have f3 : (w2.alloc (.cells #[.int .i64 c] 3)).cell? ⟨w2.heap.size, 0, none⟩ = some (.int .i64 c) := cell_new w2 #[.int .i64 c] 3 0 (by simp)
        have HD := Lib.hid (HA.out.2.2 c hcn _ M3.gb M3.wk)
        have H3 := Lib.hid (And.intro M3 f3)
        clear M3 f3 MM
        go_wp2_with fail
        refine HD.out.mono ?_
        rintro e w5 ⟨rfl, hb5⟩
        have M5 := H3.out.1.below hb5
        have f5 : w5.cell? ⟨w2.heap.size, 0, none⟩ = some (.int .i64 c) := cell_on hb5 H3.out.2
        have hm5 := (hm2.keep (keeps_of_below hB3)).keep (keeps_of_below hb5)
        have hsz5 : w2.heap.size + 1 ≤ w5.heap.size := by have := hb5.size; simpa using this
        have hq5 : ApartR (w.heap.size + 1 + 1 + 1 + 1) w2.heap.size w5.heap.size w5 := by
          obtain ⟨v, hv, _, ho⟩ := M2.q
          exact fun u g hu hg => .inl (ho.lt g (by rw [cell_on hb5 (cell_on hB3 hv)] at hu; cases hu; exact hg)).2
        clear hb5 hB3 M2 hm2 HD H3
        cases hed : ed c with
        | true =>
          have HE : Hid (ed c = true) := Lib.hid hed
          clear hed
          go_wp2_with fail
          exact HR.out c M F mn rk t (c :: q) _ _ rfl hm5 M5.out (Lib.hid ⟨hI.out.1.toBBase, by have := hI.out.2; omega, .inr ⟨c, rfl, HMC.out, HE.out⟩⟩)
        | false =>
          have HE : Hid (ed c = false) := Lib.hid hed
          clear hed
          have m5 := M5.c0
          go_wp2_with (go_at_call 82; refine (neighbours_any _ _ _ ⟨_, rfl⟩ ⟨_, rfl⟩).mono ?_; rintro e w' ⟨rfl, rfl⟩)
          generalize hW : World.alloc _ _ = W3
          have hB3 : Below w5.heap.size w5 W3 := by rw [← hW]; exact ((Below.refl _ w5).alloc (Nat.le_refl _) _).alloc (by simp) _
          have hsz3 : w5.heap.size + 2 = W3.heap.size := by rw [← hW]; simp
          have f4 : W3.cell? ⟨w5.heap.size, 0, none⟩ = some (.pointer (some ⟨b, 0, none⟩)) := by rw [← hW]; simp [go_sem]
          have f6 : W3.cell? ⟨w5.heap.size + 1, 0, none⟩ = some (.int .i64 c) := by rw [← hW]; simp [go_sem]
          clear hW
          have M6 := M5.below hB3
          have f3 := cell_on hB3 f5
          have hq3 : ApartR (w.heap.size + 1 + 1 + 1 + 1) w2.heap.size W3.heap.size W3 := by
            obtain ⟨v, hv, _, ho⟩ := M5.q
            exact fun u g hu hg => by
              rw [cell_on hB3 hv] at hu
              cases hu
              rcases hq5 _ g hv hg with h | h
              · exact .inl h
              · have := (ho.lt g hg).2; omega
          have hm3 := MarksLt.of_marks (hm5.keep (keeps_of_below hB3))
          obtain ⟨hb0, ⟨hvv, hb1, ha3, hcap3, rfl, -⟩⟩ := And.intro M6.wk.c0 M6.wk.c1
          have hCn : Cn w5.heap.size (w5.heap.size + 1) b g.wd g.hs.length hcap3 c ha3 W3 := ⟨f4, f6, hb0, hb1⟩
          clear f4 f6 hb0 hb1 m5 M5 hm5 hB3 hq5 f5
          refine wp_range (xs := nbrL g.wd g.ss.length c) rfl (enters_of Try.func102 (by kernel_rfl) rfl) (Cn w5.heap.size (w5.heap.size + 1) b g.wd g.hs.length hcap3 c ha3)
            (by rw [← hg.hn]; exact nbr_iter hg.w0 hg.w1 (by have := hg.hn; omega) (by omega) hCn)
            (fun pre W => ∃ M' F' mn' rk' t' q', Hid (BMid g (fun c => land g c ∧ en c = true) (fun c => bn c = true) ed M' F' rk' t' q' c pre ∧ meas g.ss.length (unmet M') q' < m ∧ mn' + sumTo (unmet M') g.ss.length ≤ 200 ∧ t' ≤ mn' + 1) ∧ PathMem B w b fe le g M' mn' F' q' W ∧ MarksLt (w.heap.size + 5) W3.heap.size ds W ∧
              Cn w5.heap.size (w5.heap.size + 1) b g.wd g.hs.length hcap3 c ha3 W ∧ W.cell? ⟨w2.heap.size, 0, none⟩ = some (.int .i64 c) ∧ ApartR (w.heap.size + 1 + 1 + 1 + 1) w2.heap.size W3.heap.size W)
            (fun _ _ _ => False) (fun _ _ h => by obtain ⟨_, _, _, _, _, _, _, _, _, h, _⟩ := h; exact h) (fun _ _ h hs => h.steady hs) ?sI (fun _ _ _ _ h _ => h)
            ⟨M, F, mn, rk, t, q, Lib.hid ⟨hI.out.1.take HE.out, by have := HMQ.out; simp [meas]; omega, hI.out.2.2.2⟩, M6, hm3, hCn, f3, hq3⟩ ?a1 ?assign ?body ?done ?stop
          case sI =>
            rintro _ _ _ ⟨M', F', mn', rk', t', q', h1, h2, h3, h4, h5, h6⟩ hs
            obtain ⟨v, hv, _⟩ := h2.q
            exact ⟨M', F', mn', rk', t', q', h1, h2.steady hs (by omega), h3.steady hs, h4.steady hs, hs.cell h5, h6.of_cell hv (hs.cell hv)⟩
          case assign =>
            intro l x W K hK
            gi_wp2
            exact hK
          case stop => rintro _ _ _ _ _ _ h; exact h.elim
          case done =>
            rintro D W hD ⟨M', F', mn', rk', t', q', h1, h2, h3, h4, h5, h6⟩ hk
            refine HJ.out.2 _ _ ?_
            exact .intro _ h1.out.2.1 (HJ.out.1 _ _ _ ⟨M', F', mn', rk', t', q', rfl, h3.cons (by omega) hD hk, h2, Lib.hid ⟨h1.out.1.done, rfl, by have := h1.out.2.1; have := hI.out.2.2.1; omega, h1.out.2.2⟩⟩)
          case body =>
            rintro l pre x W hx ⟨M', F', mn', rk', t', q', h1, h2, h3, h4, h5, h6⟩
            obtain ⟨k, rfl, hk⟩ := mem_nbrL hg.w0 hg.dv hcn hx
            have HN : Hid (nb g c k) := Lib.hid hx
            obtain ⟨sv, q2, sa', scap', rfl, hsc⟩ := h2.wk.c2
            obtain ⟨sb, soff, rfl, hsb, hsc⟩ := hsc (ints_ne (by omega))
            obtain ⟨z, hz⟩ : ∃ z, z = g.ss.getD k 0 := ⟨_, rfl⟩
            have q0 : W.cell? ⟨sb, soff + k, none⟩ = some (.int .i64 z) := by rw [hz]; exact hsc k _ (ints_at' _ _ hk)
            have HX := Lib.hid hz
            have m0 := h2.c0
            have m1 := h2.c1
            have hs4 : w5.heap.size + 1 < W.heap.size := World.block_lt_of_cell? _ _ h4.2.1
            have hsz6 := h2.size
            clear hz hsc hx f3 hCn M6 hm3 hq3
            refine wpIn_block ?_
            by_cases hz0 : z = 0
            · subst hz0
              gi_wp2_with fail
              refine ⟨trivial, rfl, ?_⟩
              refine ((callsIn_wide.2 (HA.out.1 k hk W h2.gb h2.wk)).inRound l).mono ?_
              rintro e W2 ⟨rfl, hb2⟩
              have K2' : KeepsOthers W W2 := keeps_of_below hb2
              have M2' := h2.below hb2
              have L2 := h3.keeps K2'
              have C2' := h4.below hb2
              have c2' := cell_on hb2 h5
              have A2 : ApartR (w.heap.size + 1 + 1 + 1 + 1) w2.heap.size W3.heap.size W2 := by obtain ⟨v, hv, _⟩ := h2.q; exact h6.of_cell hv (cell_on hb2 hv)
              have hs5 := hb2.size
              clear hb2 m0 m1 q0 q2
              cases hen : en k with
              | true =>
                have HEN := Lib.hid hen
                clear hen
                have m0 := M2'.c0
                have m3 := M2'.c3
                obtain ⟨m4, m5⟩ := M2'.met k (by omega)
                cases hMk : M' k with
                | true =>
                  have HMK := Lib.hid hMk
                  rw [hMk] at m4
                  clear hMk
                  gi_wp2
                  exact ⟨K2'.from _, M', F', mn', rk', t', q', Lib.hid ⟨h1.out.1.skip (fun _ => HMK.out), h1.out.2⟩, M2', L2, C2', c2', A2⟩
                | false =>
                  have HMK := Lib.hid hMk
                  rw [hMk] at m4
                  clear hMk
                  have hk0 : (k : Int) < 100 := by omega
                  have hc0' : (c : Int) < 100 := by omega
                  have M4 := (M2'.mark (k := k) (by omega)).drew
                  have HMN := Lib.hid (h1.out.2.2.1)
                  obtain ⟨w4, hrun, hmap, hgr⟩ := M4.mp.update (c := k) (v := c) (by have := HMN.out; unfold maxLen; omega) (WalkArith.wf_i64 ⟨by omega, by omega⟩) (WalkArith.wf_i64 ⟨by omega, by omega⟩)
                  have M5 := M4.note hmap hgr
                  have HG := Lib.hid hgr
                  have K4 : KeepsFrom W3.heap.size W w4 := ((K2'.trans ((KeepsOthers.setCell W2 ⟨b, 3 + k, none⟩ (.bool true)).trans (KeepsOthers.drew _))).from _).trans (KeepsFrom.of_grownBy hgr (fun j e => by cases e; omega))
                  have L4 := (L2.keeps ((KeepsOthers.setCell W2 ⟨b, 3 + k, none⟩ (.bool true)).trans (KeepsOthers.drew _))).grown hgr (fun r e => by cases e; omega)
                  have g4 : ∀ {a j : Nat} {u : Value}, W2.cell? ⟨a, j, none⟩ = some u → a ≠ w.heap.size + 1 + 1 → (a = b → j < 3) → w4.cell? ⟨a, j, none⟩ = some u := by
                    intro a j u hu hne hb3
                    refine hgr.cell ?_ (fun e => hne (by simpa using e))
                    show (W2.setCell ⟨b, 3 + k, none⟩ (.bool true)).cell? _ = _
                    by_cases e : a = b
                    · subst e; rw [setCell_off _ _ (by have := hb3 rfl; omega)]; exact hu
                    · rw [setCell_far _ _ (Ne.symm e)]; exact hu
                  have C4 : Cn w5.heap.size (w5.heap.size + 1) b g.wd g.hs.length hcap3 c ha3 w4 := ⟨g4 C2'.1 (by omega) (by omega), g4 C2'.2.1 (by omega) (by omega), g4 C2'.2.2.1 (by omega) (by omega), g4 C2'.2.2.2 (by omega) (by omega)⟩
                  have c4 := g4 c2' (by omega) (by omega)
                  have A4 : ApartR (w.heap.size + 1 + 1 + 1 + 1) w2.heap.size W3.heap.size w4 := by obtain ⟨v, hv, _⟩ := M2'.q; exact A2.of_cell hv (g4 hv (by omega) (by omega))
                  have hs6 : W3.heap.size ≤ w4.heap.size := Nat.le_trans (by have := h1; omega) (Nat.le_trans (Nat.le_of_eq (by simp [World.setCell] : W2.heap.size = ((W2.setCell ⟨b, 3 + k, none⟩ (.bool true)).drew).heap.size)) hgr.size)
                  clear g4 hgr hmap
                  have hC4 : (fun W => W.cell? ⟨w.heap.size, 0, none⟩ = some (.pointer (some ⟨b, 0, none⟩)) ∧ W.cell? ⟨w.heap.size + 1 + 1 + 1, 0, none⟩ = some (.map (some (w.heap.size + 1 + 1))) ∧ W.cell? ⟨w2.heap.size, 0, none⟩ = some (.int .i64 c)) w4 := ⟨M5.c0, M5.c3, c4⟩
                  have hC3 : (fun W => W.cell? ⟨w.heap.size, 0, none⟩ = some (.pointer (some ⟨b, 0, none⟩)) ∧ W.cell? ⟨w.heap.size + 1 + 1 + 1, 0, none⟩ = some (.map (some (w.heap.size + 1 + 1))) ∧ W.cell? ⟨w2.heap.size, 0, none⟩ = some (.int .i64 c)) (W2.setCell ⟨b, 3 + k, none⟩ (.bool true)).drew := ⟨M4.c0, M4.c3, by
                    show (W2.setCell ⟨b, 3 + k, none⟩ (.bool true)).cell? _ = _
                    rw [setCell_far _ _ (by omega)]; exact c2'⟩
                  have hC : (fun W => W.cell? ⟨w.heap.size, 0, none⟩ = some (.pointer (some ⟨b, 0, none⟩)) ∧ W.cell? ⟨w.heap.size + 1 + 1 + 1, 0, none⟩ = some (.map (some (w.heap.size + 1 + 1))) ∧ W.cell? ⟨w2.heap.size, 0, none⟩ = some (.int .i64 c)) W2.drew := ⟨m0, m3, c2'⟩
                  gi_wp2_with fail
                  refine Lim.regC (fun W => W.cell? ⟨w.heap.size, 0, none⟩ = some (.pointer (some ⟨b, 0, none⟩)) ∧ W.cell? ⟨w.heap.size + 1 + 1 + 1, 0, none⟩ = some (.map (some (w.heap.size + 1 + 1))) ∧ W.cell? ⟨w2.heap.size, 0, none⟩ = some (.int .i64 c)) [] #[false, false, false, false, false, false, false, false, false, false] (by kernel_rfl) rfl ?_
                  refine Lim.stepR 0 (fun _ => trivial) rfl (by kernel_rfl) (fun _ _ _ _ h => h) hC rfl ?_; apply Exists.intro; refine ⟨?_, ?_⟩
                  · rintro w ⟨r1, r2, r3⟩; go_simp; try with_reducible rfl
                  simp only [Act.put, List.setIfInBounds_toArray, List.set_cons_succ, List.set_cons_zero]
                  refine Lim.stepR 1 (fun _ => trivial) rfl (by kernel_rfl) (fun _ _ _ _ h => h) hC rfl ?_; apply Exists.intro; refine ⟨?_, ?_⟩
                  · rintro w ⟨r1, r2, r3⟩; go_simp; try with_reducible rfl
                  simp only [Act.put, List.setIfInBounds_toArray, List.set_cons_succ, List.set_cons_zero]
                  refine Lim.stepR 2 (fun _ => trivial) rfl (by kernel_rfl) (fun _ _ _ _ h => h) hC rfl ?_; apply Exists.intro; refine ⟨?_, ?_⟩
                  · rintro w ⟨r1, r2, r3⟩; go_simp; try with_reducible rfl
                  simp only [Act.put, List.setIfInBounds_toArray, List.set_cons_succ, List.set_cons_zero]
                  refine Lim.stepR 3 (fun _ => trivial) rfl (by kernel_rfl) (fun _ _ _ _ h => h) hC rfl ?_; apply Exists.intro; refine ⟨?_, ?_⟩
                  · rintro w ⟨r1, r2, r3⟩; go_simp; try with_reducible rfl
                  simp only [Act.put, List.setIfInBounds_toArray, List.set_cons_succ, List.set_cons_zero]
                  refine Lim.stepR 4 (fun _ => trivial) rfl (by kernel_rfl) (fun _ _ _ _ h => h) hC rfl ?_; apply Exists.intro; refine ⟨?_, ?_⟩
                  · rintro w ⟨r1, r2, r3⟩; go_simp; try with_reducible rfl
                  simp only [Act.put, List.setIfInBounds_toArray, List.set_cons_succ, List.set_cons_zero]
                  refine Lim.stepR 5 (fun _ => trivial) rfl (by kernel_rfl) (fun _ _ _ _ h => h) hC rfl ?_; apply Exists.intro; refine ⟨?_, ?_⟩
                  · rintro w ⟨r1, r2, r3⟩; go_simp; try with_reducible rfl
                  simp only [Act.put, List.setIfInBounds_toArray, List.set_cons_succ, List.set_cons_zero]
                  refine Lim.stepR 6 (fun _ => trivial) rfl (by kernel_rfl) (fun _ _ _ _ h => h) hC rfl ?_; apply Exists.intro; refine ⟨?_, ?_⟩
                  · rintro w ⟨r1, r2, r3⟩; go_simp; try with_reducible rfl
                  simp only [Act.put, List.setIfInBounds_toArray, List.set_cons_succ, List.set_cons_zero]
                  refine Lim.stepR 7 (fun _ => trivial) rfl (by kernel_rfl) (fun _ _ _ _ h => h) hC rfl ?_; apply Exists.intro; refine ⟨?_, ?_⟩
                  · rintro w ⟨r1, r2, r3⟩; go_simp; try with_reducible rfl
                  simp only [Act.put, List.setIfInBounds_toArray, List.set_cons_succ, List.set_cons_zero]
                  refine Lim.stepE 8 (fun _ => trivial) rfl (by kernel_rfl) rfl (fun K hK => ?_)   -- E store
                  go_simp
                  refine hK _ _ hC3 ?_
                  simp only [Act.put, List.setIfInBounds_toArray, List.set_cons_succ, List.set_cons_zero]
                  refine Lim.stepE 9 (fun _ => trivial) rfl (by kernel_rfl) rfl (fun K hK => ?_)   -- E mapUpdate
                  go_simp
                  refine hK _ _ hC4 ?_
                  simp only [Act.put, List.setIfInBounds_toArray, List.set_cons_succ, List.set_cons_zero]
                  refine Lim.stepD (by kernel_rfl) ?_
                  clear hC hC3 hC4 hrun m0 m3 m4 m5
                  obtain ⟨v, hv, hf, hown⟩ := M5.q
                  have hnq : ∀ g, v.ownBlock = some g → g < w2.heap.size ∨ W3.heap.size ≤ g := fun g hg => A4 v g hv hg
                  have HNQ := Lib.hid hnq
                  clear hnq
                  gi_wp2_with fail
                  refine ⟨trivial, rfl, ?_⟩
                  refine ((callsIn_wide.2 (put_any hv hf hown (by omega) (by omega) (by have := h1.out.2.1; have := hI.out.2.2.1; simp [ints, meas] at *; omega))).inRound l).mono ?_
                  rintro e W6 ⟨rfl, v', w1, hown', hgr, hw', hc', hf', hnew⟩
                  have M6 := M5.put k hown hown' hgr hw' hc' hf'
                  have K6 : KeepsOthers w4 W6 := by rw [hw']; exact (keeps_of_owns hown hgr).trans (KeepsOthers.setCell _ _ _)
                  have HR := h1.out.1.add hg HN.out (show land g k ∧ en k = true from ⟨⟨hk, HX.out.symm⟩, HEN.out⟩) HMK.out
                  have hms := sumTo_less (unmet M') k 0 (by omega) (by unfold unmet; rw [HMK.out]; decide) g.ss.length hk
                  rw [← unmet_upd] at hms
                  have HC := Lib.hid (And.intro hw' (And.intro hc' hnew))
                  clear hw' hc' hf' hnew
                  gi_wp2
                  refine ⟨K4.trans (K6.from _), updB M' k, updF F' k c, mn' + 1, _, t' + 1, q' ++ [k], Lib.hid ⟨HR, ?_, ?_, ?_⟩, M6, L4.keeps K6, ⟨?_, ?_, ?_, ?_⟩, ?_, ?_⟩
                  · have := h1.out.2.1; simp only [meas, List.length_append, List.length_singleton] at *; omega
                  · have := h1.out.2.2.1; omega
                  · have := h1.out.2.2.2; omega
                  · exact put_cell HC.out.1 hgr C4.1 (fun g hg => by have := HNQ.out g hg; omega) (by omega)
                  · exact put_cell HC.out.1 hgr C4.2.1 (fun g hg => by have := HNQ.out g hg; omega) (by omega)
                  · exact put_cell HC.out.1 hgr C4.2.2.1 (fun g hg => by have := (hown.lt g hg).1; omega) (by omega)
                  · exact put_cell HC.out.1 hgr C4.2.2.2 (fun g hg => by have := (hown.lt g hg).1; omega) (by omega)
                  · exact put_cell HC.out.1 hgr c4 (fun g hg => by have := HNQ.out g hg; omega) (by omega)
                  · intro u g hu hg
                    rw [HC.out.2.1] at hu
                    cases hu
                    rcases HC.out.2.2 g hg with h | h
                    · exact HNQ.out g h
                    · exact .inr (by omega)
              | false =>
                have HEN := Lib.hid hen
                clear hen
                gi_wp2
                exact ⟨K2'.from _, M', F', mn', rk', t', q', Lib.hid ⟨h1.out.1.skip (fun h => by have := h.2; rw [HEN.out] at this; cases this), h1.out.2⟩, M2', L2, C2', c2', A2⟩
            · have hz1 : (z == 0) = false := by simpa using hz0
              gi_wp2
              refine ⟨fun f h => (by cases h), ?_⟩
              gi_wp2
              exact ⟨(KeepsOthers.refl _).from _, M', F', mn', rk', t', q', Lib.hid ⟨h1.out.1.skip (fun h => absurd (by rw [HX.out]; exact h.1.2) hz0), h1.out.2⟩, h2, h3, h4, h5, h6⟩
end Go.Proofs.Ytdgibmgifgdpbaa
/-
  Ways and walls: the contracts of ridge's functions Crossing and parts.
-/
namespace Go.Proofs.Ytdgibmgifgdpbaa
open Go.RowKit Go.Shelf
open Lim

theorem IsWay.reach {g : Gd} {A Bg : Nat → Prop} {En : Nat → Bool} {L : List Nat} (hg : g.Ok) (hA : ∀ c, A c → c < g.n) (h : IsWay g A Bg En L) : ∀ n l r, l.length = n → L = l ++ r → ∀ a ∈ l, Re g A Bg a := by
  intro n
  induction n with
  | zero => intro l r hl _ a ha; rw [List.eq_nil_of_length_eq_zero hl] at ha; simp at ha
  | succ n ih =>
    intro l r hl e a ha
    rcases List.eq_nil_or_concat l with rfl | ⟨l, x, rfl⟩
    · simp at ha
    · rw [List.concat_eq_append] at ha e
      have hl : l.length = n := by simpa using hl
      have ih' := ih l (x :: r) hl (by rw [e]; simp)
      rcases List.mem_append.1 ha with ha | ha
      · exact ih' a ha
      · have e2 : a = x := by simpa using ha
        subst e2
        have hAx := h.cells a (by rw [e]; simp)
        rcases List.eq_nil_or_concat l with rfl | ⟨l', y, rfl⟩
        · obtain ⟨b, r', e3, hb⟩ := h.first
          have : a = b := by rw [e] at e3; simp at e3; exact e3.1
          subst this
          exact .base hAx hb
        · have hn := h.adj l' y a r (by rw [e]; simp)
          exact .step hAx (nb_symm hg (hA y (h.cells y (by rw [e]; simp))) hn) (ih' y (by simp))
theorem IsWay.goal {g : Gd} {A Bg : Nat → Prop} {En : Nat → Bool} {L : List Nat} (hg : g.Ok) (hA : ∀ c, A c → c < g.n) (h : IsWay g A Bg En L) : ∃ c, Re g A Bg c ∧ En c = true := by
  obtain ⟨l, b, e, hb⟩ := h.last
  exact ⟨b, h.reach hg hA _ L [] rfl (by simp) b (by rw [e]; simp), hb⟩
theorem IsWay.ne {g : Gd} {A Bg : Nat → Prop} {En : Nat → Bool} {L : List Nat} (h : IsWay g A Bg En L) : 0 < L.length := by
  obtain ⟨b, r, e, _⟩ := h.first
  rw [e]; simp
/-- who comes to S, from a cell to which one comes from T, shows that S is reached from T -/
theorem Re.turn {g : Gd} {A S T : Nat → Prop} (hg : g.Ok) (hA : ∀ c, A c → c < g.n) {c : Nat} (h : Re g A S c) : Re g A T c → ∃ k, Re g A T k ∧ S k := by
  induction h with
  | base ha hs => exact fun ht => ⟨_, ht, hs⟩
  | @step c k ha hn hr ih => exact fun ht => ih (.step hr.in_A (nb_symm hg (hA c ha) hn) ht)

theorem asks_by {B b bw bs : Nat} {g : Gd} {s : Int} {w : World} (hg : g.Ok) (hB : B ≤ b) (h0 : w.cell? ⟨bw, 0, none⟩ = some (.pointer (some ⟨b, 0, none⟩))) (h1 : w.cell? ⟨bs, 0, none⟩ = some (.int .i64 s)) (n0 : bw ≠ b) (n1 : bs ≠ b) :
    Asks B b 105 #[.pointer (some ⟨bw, 0, none⟩), .pointer (some ⟨bs, 0, none⟩)] g (fun c => atB g c s) w := by
  intro k hk W hgr hwk
  have hlt := hwk.lt
  exact by1_any (B := W.heap.size) hg hk (Nat.le_refl _) (hwk.at hlt (by omega)) (hgr.cell h0 (fun e => n0 (by simpa using e))) (hgr.cell h1 (fun e => n1 (by simpa using e)))
theorem Lim.RS.grown {B : Nat} {w w' : World} {v : Value} {n : Nat} {xs : List Value} {row : Option Nat} (h : RS B w v n xs) (hg : w.grownBy w' row) (hr : ∀ r, row = some r → B ≤ r) : RS B w' v n xs := by
  obtain ⟨a, cap, hv, h⟩ := h
  exact ⟨a, cap, hv, fun hne => let ⟨b, off, h1, h2, h3⟩ := h hne; ⟨b, off, h1, h2, fun j u hj => hg.cell (h3 j u hj) (fun e => by have := hr _ e.symm; dsimp only at this; omega)⟩⟩
/-- a slice of n elements that is only read: its cells xs lie in another block than b -/
def RSx (b : Nat) (w : World) (v : Value) (n : Nat) (xs : List Value) : Prop :=
  ∃ a cap, v = .slice a n cap ∧ (xs ≠ [] → ∃ g off, a = some ⟨g, off, none⟩ ∧ g ≠ b ∧ g < w.heap.size ∧ ∀ j u, xs[j]? = some u → w.cell? ⟨g, off + j, none⟩ = some u)
theorem Lim.RS.x {B b : Nat} {w : World} {v : Value} {n : Nat} {xs : List Value} (h : RS B w v n xs) (hB : B ≤ b) (hb : B ≤ w.heap.size) : RSx b w v n xs := by
  obtain ⟨a, cap, hv, h⟩ := h
  exact ⟨a, cap, hv, fun hne => let ⟨g, off, h1, h2, h3⟩ := h hne; ⟨g, off, h1, by omega, by omega, h3⟩⟩
theorem RSx.rs {b : Nat} {w : World} {v : Value} {n : Nat} {xs : List Value} (h : RSx b w v n xs) : RS w.heap.size w v n xs := by
  obtain ⟨a, cap, hv, h⟩ := h
  exact ⟨a, cap, hv, fun hne => let ⟨g, off, h1, _, h2, h3⟩ := h hne; ⟨g, off, h1, h2, h3⟩⟩
theorem RSx.grown {b : Nat} {w w' : World} {v : Value} {n : Nat} {xs : List Value} (h : RSx b w v n xs) (hg : w.grownBy w' (some b)) : RSx b w' v n xs := by
  obtain ⟨a, cap, hv, h⟩ := h
  exact ⟨a, cap, hv, fun hne => let ⟨g, off, h1, h2, h3, h4⟩ := h hne; ⟨g, off, h1, h2, Nat.lt_of_lt_of_le h3 hg.size, fun j u hj => hg.cell (h4 j u hj) (fun e => h2 (by simpa using e))⟩⟩
theorem RSx.below {b : Nat} {w w' : World} {v : Value} {n : Nat} {xs : List Value} (h : RSx b w v n xs) (hb : Below w.heap.size w w') : RSx b w' v n xs := by
  obtain ⟨a, cap, hv, h⟩ := h
  exact ⟨a, cap, hv, fun hne => let ⟨g, off, h1, h2, h3, h4⟩ := h hne; ⟨g, off, h1, h2, Nat.lt_of_lt_of_le h3 hb.size, fun j u hj => cell_on hb (h4 j u hj)⟩⟩
theorem RSx.of_owns {b base e size n : Nat} {w : World} {v : Value} {xs : List Value} (h : w.ownsRow base e size v n xs) (hb : b < base) : RSx b w v n xs := by
  rcases h.2 with ⟨rfl, rfl⟩ | ⟨g, cap, cur, rfl, hbg, hg, hn, hm, hs, ht⟩
  · exact ⟨none, 0, rfl, fun hne => by have := h.1; simp at this; exact absurd this hne⟩
  · refine ⟨some ⟨g, 0, none⟩, cap, rfl, fun _ => ⟨g, 0, rfl, by omega, (Array.getElem?_eq_some_iff.1 hg).1, fun j u hj => ?_⟩⟩
    have := h.cells (g := g) rfl j u hj
    have e : (⟨g, 0, none⟩ : Addr).add j = ⟨g, 0 + j, none⟩ := by unfold Addr.add; split <;> simp_all
    rw [e] at this
    exact this
theorem asks_parts {B b bx : Nat} {g : Gd} {v : Value} {xs : List Int} {w : World} (hn : xs.length ≤ 100000) (hv : RSx b w v xs.length (ints xs)) (h0 : w.cell? ⟨bx, 0, none⟩ = some v) (n0 : bx ≠ b) :
    Asks B b 99 #[.pointer (some ⟨bx, 0, none⟩)] g (fun c => !decide ((c : Int) ∈ xs)) w := by
  intro k hk W hgr hwk
  refine (parts1_any (B := W.heap.size) (k : Int) hn (hv.grown hgr).rs (hgr.cell h0 (fun e => n0 (by simpa using e)))).mono ?_
  rintro e w' ⟨h1, rfl⟩
  exact ⟨h1, Below.refl _ _⟩
theorem asks_crossing {B b bg bs : Nat} {g : Gd} {hv : Value} {h : Int} {w : World} (hg : g.Ok) (hB : B ≤ b) (hh : RS B w hv g.hs.length (spans g.hs)) (h0 : w.cell? ⟨bg, 1, none⟩ = some hv) (h1 : w.cell? ⟨bs, 1, none⟩ = some (.int .i64 h)) (n0 : bg ≠ b) (n1 : bs ≠ b) :
    Asks B b 88 #[.pointer (some ⟨bg, 0, none⟩), .pointer (some ⟨bs, 0, none⟩)] g (fun c => decide ((g.hs.getD c (0, 0)).2 ≤ h)) w := by
  intro k hk W hgr hwk
  exact crossing1_any (B := B) (by rw [hg.hn]; exact hk) (hh.grown hgr (fun r e => by cases e; exact hB)) (hgr.cell h0 (fun e => n0 (by simpa using e))) (hgr.cell h1 (fun e => n1 (by simpa using e)))

/-- whether cells part the seas: no way leads from the first sea to the second one without them -/
def PartsG (g : Gd) (xs : List Int) : Prop := ∀ c, Re g (fun c => land g c ∧ ¬ (c : Int) ∈ xs) (fun c => atB g c 1 = true) c → atB g c 2 = false

set_option maxRecDepth 100000 in
set_option maxHeartbeats 1000000 in
theorem parts_any {B b : Nat} {v : Value} {g : Gd} {xs : List Int} {w : World} {M : Nat → Bool} (hg : g.Ok) (hB : B ≤ b) (hw : WorkIn B w b g) (hm : MetAt w b M) (hn : xs.length ≤ 100000) (hv : RSx b w v xs.length (ints xs)) :
    Calls Try.prog 73 #[.pointer (some ⟨b, 0, none⟩), v] w fun e w' => ∃ d : Bool, e = .returned (.bool d) ∧ (d = true ↔ PartsG g xs) ∧ w.grownBy w' (some b) ∧ WorkIn B w' b g ∧ ∃ M', MetAt w' b M' := by
  have hbw := hw.lt
  have HA := Lib.hid (And.intro hw (And.intro hm hv))
  clear hw hm
  obtain ⟨a, cap, rfl, -⟩ := hv
  go_enter Try.func73, Try.ntmps73
  go_wp2_with fail
  refine (by_any b 1 _).mono ?_
  have hb1 : Below w.heap.size w (w.alloc (.cells #[.slice a xs.length cap] 23)) := (Below.refl _ w).alloc (Nat.le_refl _) _
  have hx1 : (w.alloc (.cells #[.slice a xs.length cap] 23)).cell? ⟨w.heap.size, 0, none⟩ = some (.slice a xs.length cap) := cell_new w #[.slice a xs.length cap] 23 0 (by simp)
  have hsz : (w.alloc (.cells #[.slice a xs.length cap] 23)).heap.size = w.heap.size + 1 := by simp
  generalize (w.alloc (.cells #[.slice a xs.length cap] 23)) = w1 at hb1 hx1 hsz ⊢
  rintro e w2 ⟨rfl, hb2, hc2, hc3⟩
  rw [hsz] at hb2 hc2 hc3 ⊢
  have hb2' : Below w.heap.size w w2 := hb1.trans (hb2.mono (by omega))
  have hx2 := (hb2.cell (p := ⟨w.heap.size, 0, none⟩) (by dsimp only; omega)).trans hx1
  have hs2 : w.heap.size + 3 ≤ w2.heap.size := by have := World.block_lt_of_cell? _ _ hc3; simp at this; omega
  have HB := Lib.hid (And.intro hb2' (And.intro hx2 (And.intro hc2 hc3)))
  clear hb1 hb2 hb2' hx1 hx2 hc2 hc3 hsz
  go_wp2_with fail
  refine (by_any b 2 _).mono ?_
  rintro e w3 ⟨rfl, hb3, hc2, hc3⟩
  have B3 : Below w.heap.size w w3 := HB.out.1.trans (hb3.mono (by omega))
  have hs3 := hb3.size
  have hlt3 := World.block_lt_of_cell? _ _ hc3
  have B3' : Below w.heap.size w w3 := B3
  have k1 := cell_on hb3 HB.out.2.1
  have k2 := cell_on hb3 HB.out.2.2.1
  have k3 := cell_on hb3 HB.out.2.2.2
  have HP := Lib.hid (path_any (B := B) (w := w3) (M := M) hg hB (HA.out.1.below B3 (by omega)) (HA.out.2.1.below B3)
    (enters_of Try.func99 (by kernel_rfl) rfl) (enters_of Try.func105 (by kernel_rfl) rfl) (enters_of Try.func105 (by kernel_rfl) rfl)
    (asks_parts hn (HA.out.2.2.below B3) k1 (by omega)) (asks_by hg hB k2 k3 (by omega) (by omega)) (asks_by hg hB hc2 hc3 (by omega) (by omega)))
  have HB3 := Lib.hid B3
  clear hc2 hc3 k1 k2 k3 B3 B3' hb3
  go_wp2_with fail
  refine HP.out.mono ?_
  rintro e w4 ⟨hgr, hwk, v', M', rfl, hmet, hcase⟩
  have HG := Lib.hid (And.intro hgr (And.intro hwk hmet))
  have HAn : Hid (∀ c, (land g c ∧ (!decide ((c : Int) ∈ xs)) = true) → c < g.n) := Lib.hid (fun c h => h.1.1)
  have HQ : Hid ((fun c => land g c ∧ (!decide ((c : Int) ∈ xs)) = true) = (fun c => land g c ∧ ¬ (c : Int) ∈ xs)) := Lib.hid (by funext c; simp)
  have gall : Hid (w.grownBy w4 (some b)) := Lib.hid (grown_but (⟨HB3.out.os, HB3.out.tape, HB3.out.output, HB3.out.size, fun k hk _ => HB3.out.block k hk⟩ : w.grownBy w3 (some b)) hgr (fun r e => .inl e.symm))
  clear hgr hwk hmet HP
  rcases hcase with ⟨rfl, hno, -⟩ | ⟨L, hway, hown⟩
  · have HN := Lib.hid hno
    clear hno
    have q0 : (binOp .eql 23 (.slice none 0 0) (.slice none 0 0)).run Try.prog w4 = .ok (.bool true) w4 := Lib.run_eql_slice_nil w4 23 3 _ _ _ 0 0 Try.underlying23
    go_wp2
    go_ret
    exact ⟨true, rfl, ⟨fun _ => by unfold PartsG; rw [← HQ.out]; exact HN.out, fun _ => rfl⟩, gall.out, HG.out.2.1, M', HG.out.2.2⟩
  · have HY := Lib.hid hway
    obtain ⟨n, hn'⟩ : ∃ n, L.length = n + 1 := ⟨L.length - 1, by have := hway.ne; omega⟩
    rw [hn'] at hown
    rcases hown.2 with ⟨_, h0⟩ | ⟨gg, cap', cur, rfl, -⟩
    · omega
    clear hown hway
    have q0 : (binOp .eql 23 (.slice (some ⟨gg, 0, none⟩) (n + 1) cap') (.slice none 0 0)).run Try.prog w4 = .ok (.bool false) w4 := Lib.run_eql_slice_nil w4 23 3 _ _ _ 0 0 Try.underlying23
    go_wp2
    go_ret
    refine ⟨false, rfl, ⟨fun h => (by cases h), fun h => ?_⟩, gall.out, HG.out.2.1, M', HG.out.2.2⟩
    obtain ⟨c, h1, h2⟩ := HY.out.goal hg HAn.out
    unfold PartsG at h
    rw [← HQ.out] at h
    rw [h c h1] at h2; cases h2
end Go.Proofs.Ytdgibmgifgdpbaa
/-
  A crossing: the contract of ridge's function Crossing.
-/
namespace Go.Proofs.Ytdgibmgifgdpbaa
open Go.RowKit Go.Shelf
open Lim

theorem highT_eq (g : Gd) (c : Nat) : highT g c = (g.hs.getD c (0, 0)).2 := by
  unfold highT
  simp only [List.getD_eq_getElem?_getD, List.getElem?_map]
  cases g.hs[c]? <;> simp
theorem lowT_eq (g : Gd) (c : Nat) : lowT g c = (g.hs.getD c (0, 0)).1 := by
  unfold lowT
  simp only [List.getD_eq_getElem?_getD, List.getElem?_map]
  cases g.hs[c]? <;> simp
theorem SadAns.good {wd : Int} {hs : List (Int × Int)} {ss : List Int} {x y : Int} (h : SadAns wd hs ss x y 0) :
    openErr wd hs ss = 0 ∧ IsSaddle ⟨wd.toNat, hs, ss⟩ (lowT ⟨wd.toNat, hs, ss⟩) x ∧ IsSaddle ⟨wd.toNat, hs, ss⟩ (highT ⟨wd.toNat, hs, ss⟩) y ∧ x ≤ 10000 ∧ y ≤ 10000 := by
  rcases h with ⟨h0, _, _, h1⟩ | ⟨h0, a, b, ha, hb, ⟨_, _, _, h1⟩ | ⟨h1, rfl, rfl, _⟩⟩
  · exact absurd h1.symm h0
  · cases h1
  · have hx : x < 10001 := by have := ha.top; omega
    refine ⟨h0, ha, hb, by omega, ?_⟩
    obtain ⟨c, hl, hat, hR⟩ := ha.hit hx
    have hG := openErr_ok h0
    refine hb.least c 10000 hat (hR.mono (fun k hk _ => ?_))
    rw [highT_eq]
    have := goodSpan (openErr_zero h0).2.2.1 (c := k) (by have := hG.hn; have h2 := hk.1; show k < hs.length; have h3 : hs.length = ss.length := this; rw [h3]; exact h2)
    exact this.2.2
/-- behind a saddle there is a crossing -/
theorem IsSaddle.crossed {g : Gd} {t : Nat → Int} {r : Int} (hg : g.Ok) (h : IsSaddle g t r) (hr : r < 10001) : ∃ c, Re g (Low g t r) (fun c => atB g c 1 = true) c ∧ atB g c 2 = true := by
  obtain ⟨c, hl, hat, hR⟩ := h.hit hr
  exact Re.turn hg (fun c h => h.1.1) hR (.base (Re.in_A hR) hat)

/-- what Crossing answers -/
def CrossingAns (wd : Int) (hs : List (Int × Int)) (ss : List Int) (w : World) (e : Ending) (w' : World) : Prop :=
  ∃ v x y er, e = .returned (.tuple #[v, .int .i64 er]) ∧ Below w.heap.size w w' ∧ SadAns wd hs ss x y er ∧ (er ≠ 0 → v = .slice none 0 0) ∧
    (er = 0 → ∃ L, IsWay ⟨wd.toNat, hs, ss⟩ (Low ⟨wd.toNat, hs, ss⟩ (highT ⟨wd.toNat, hs, ss⟩) y) (fun c => atB ⟨wd.toNat, hs, ss⟩ c 1 = true) (fun c => atB ⟨wd.toNat, hs, ss⟩ c 2) L ∧ w'.ownsRow w.heap.size 3 1 v L.length (ints (L.map Int.ofNat)))

theorem below_grown {B : Nat} {w w1 w2 : World} {row : Option Nat} (h : Below B w w1) (hg : w1.grownBy w2 row) (hB : B ≤ w1.heap.size) (hr : ∀ r, row = some r → B ≤ r) : Below B w w2 := h.trans (below_of_grown hg hB hr)

set_option maxRecDepth 100000 in
set_option maxHeartbeats 1000000 in
theorem Crossing_any {B : Nat} {wd : Int} {hv sv : Value} {hs : List (Int × Int)} {ss : List Int} {w : World} (hB : B ≤ w.heap.size) (hh : RS B w hv hs.length (spans hs)) (hss : RS B w sv ss.length (ints ss)) :
    Calls Try.prog 49 #[.agg #[.int .i64 wd, hv, sv]] w fun e w' => CrossingAns wd hs ss w e w' := by
  have B1 : Below w.heap.size w (w.alloc (.cells #[.int .i64 wd, hv, sv] 25)) := (Below.refl _ w).alloc (Nat.le_refl _) _
  have CO := Lib.hid (crossed_ans (B := B) (wd := wd) (by simp; omega) (hh.below (B1.mono hB)) (hss.below (B1.mono hB)))
  have HH := Lib.hid hh
  obtain ⟨ha, hcap, rfl, -⟩ := hh
  obtain ⟨sa, scap, rfl, -⟩ := hss
  go_enter Try.func49, Try.ntmps49
  go_wp2_with fail
  have z1 : (w.alloc (.cells #[.int .i64 wd, .slice ha hs.length hcap, .slice sa ss.length scap] 25)).cell? ⟨w.heap.size, 1, none⟩ = some (.slice ha hs.length hcap) := by simp [go_sem]
  refine CO.out.mono ?_
  rintro e w1 ⟨p, x, y, er, rfl, hb, hans, hno, hyes⟩
  have r1 := cell_on hb z1
  have hs1 : w.heap.size + 1 ≤ w1.heap.size := by have := hb.size; simpa using this
  have BR := B1.trans (hb.mono (by simp))
  have HA := Lib.hid hans
  clear z1 hb B1 CO hans
  by_cases her : er = 0
  · subst her
    obtain ⟨q, rfl, hq, HW, HM⟩ := hyes rfl
    have hq : w.heap.size + 1 ≤ q := by simpa using hq
    have hqw := HW.lt
    have HWM := Lib.hid (And.intro HW HM)
    clear hno hyes HW HM
    have B2 : Below w1.heap.size w1 (w1.alloc (.cells #[.int .i64 x, .int .i64 y] 54)) := (Below.refl _ w1).alloc (Nat.le_refl _) _
    have y1 : (w1.alloc (.cells #[.int .i64 x, .int .i64 y] 54)).cell? ⟨w1.heap.size, 1, none⟩ = some (.int .i64 y) := cell_new w1 #[.int .i64 x, .int .i64 y] 54 1 (by simp)
    have HY := Lib.hid (And.intro B2 (And.intro y1 (cell_on B2 r1)))
    have hs2 : (w1.alloc (.cells #[.int .i64 x, .int .i64 y] 54)).heap.size = w1.heap.size + 1 := by simp
    clear y1 B2 r1
    go_wp2_with fail
    generalize (w1.alloc (.cells #[.int .i64 x, .int .i64 y] 54)) = w2 at HY hs2 ⊢
    refine (by_any q 1 _).mono ?_
    rintro e w3 ⟨rfl, hb3, hc2, hc3⟩
    rw [hs2] at hb3 hc2 hc3 ⊢
    have hl3 := World.block_lt_of_cell? _ _ hc3
    dsimp only at hl3
    have Y3 := Lib.hid (And.intro (HY.out.1.trans (hb3.mono (by omega))) (And.intro ((hb3.cell (p := ⟨w1.heap.size, 1, none⟩) (by dsimp only; omega)).trans HY.out.2.1) (And.intro ((hb3.cell (p := ⟨w.heap.size, 1, none⟩) (by dsimp only; omega)).trans HY.out.2.2) (And.intro hc2 hc3))))
    clear hb3 hc2 hc3 HY hs2
    go_wp2_with fail
    refine (by_any q 2 _).mono ?_
    rintro e w4 ⟨rfl, hb4, hc4, hc5⟩
    have hl4 := World.block_lt_of_cell? _ _ hc5
    dsimp only at hl4
    have B4 := Y3.out.1.trans (hb4.mono (by omega))
    have hs4 := B4.size
    have HP := Lib.hid (path_any (B := B) (w := w4) (b := q) (g := ⟨wd.toNat, hs, ss⟩) (M := fun _ => false) (openErr_ok HA.out.good.1) (by omega) (HWM.out.1.below B4 (by omega)) (HWM.out.2.below B4)
      (enters_of Try.func88 (by kernel_rfl) rfl) (enters_of Try.func105 (by kernel_rfl) rfl) (enters_of Try.func105 (by kernel_rfl) rfl)
      (asks_crossing (openErr_ok HA.out.good.1) (by omega) ((HH.out.below (BR.mono hB)).below (B4.mono (by omega))) (cell_on hb4 Y3.out.2.2.1) (cell_on hb4 Y3.out.2.1) (by omega) (by omega))
      (asks_by (openErr_ok HA.out.good.1) (by omega) (cell_on hb4 Y3.out.2.2.2.1) (cell_on hb4 Y3.out.2.2.2.2) (by omega) (by omega)) (asks_by (openErr_ok HA.out.good.1) (by omega) hc4 hc5 (by omega) (by omega)))
    have HB4 := Lib.hid (BR.trans (B4.mono (by omega)))
    clear hb4 hc4 hc5 B4 Y3
    go_wp2_with fail
    refine HP.out.mono ?_
    rintro e w5 ⟨hgr, hwk, v', M', rfl, hmet, hcase⟩
    have HG := Lib.hid (below_grown HB4.out hgr (by omega) (fun r e => by cases e; omega))
    have HC := Lib.hid hcase
    clear hgr hwk hmet HP hcase
    go_wp2
    go_ret2
    refine ⟨v', x, y, 0, rfl, HG.out, HA.out, fun h => absurd rfl h, fun _ => ?_⟩
    have hE : (fun c => land ⟨wd.toNat, hs, ss⟩ c ∧ decide ((hs.getD c (0, 0)).2 ≤ y) = true) = Low ⟨wd.toNat, hs, ss⟩ (highT ⟨wd.toNat, hs, ss⟩) y := by
      funext c; simp only [Low, highT_eq, decide_eq_true_eq]
    have hC := HC.out
    simp only [hE] at hC
    rcases hC with ⟨-, h1, -⟩ | ⟨L, h1, h2⟩
    · obtain ⟨c, h3, h4⟩ := HA.out.good.2.2.1.crossed (openErr_ok HA.out.good.1) (by have := HA.out.good.2.2.2.2; omega)
      rw [h1 c h3] at h4; cases h4
    · exact ⟨L, h1, owns_mono h2 (by omega)⟩
  · have hp := hno her
    subst hp
    have he1 : (er == 0) = false := by simpa using her
    clear hno hyes
    go_wp2
    go_ret2
    exact ⟨_, x, y, er, rfl, BR.alloc (by omega) _, HA.out, fun _ => rfl, fun h => absurd h her⟩
end Go.Proofs.Ytdgibmgifgdpbaa
/-
  The contract of ridge's function Saddles.
-/
namespace Go.Proofs.Ytdgibmgifgdpbaa
open Go.RowKit Go.Shelf
open Lim

/-- the cells that Saddles names -/
def sadList (g : Gd) (a b : Nat → Int) (y : Int) : List Nat := (List.range g.n).filter fun c => g.ss.getD c 0 == 0 && decide (max (a c) (b c) ≤ min (highT g c) y)
def sadTo (g : Gd) (a b : Nat → Int) (y : Int) (k : Nat) : List Nat := (List.range k).filter fun c => g.ss.getD c 0 == 0 && decide (max (a c) (b c) ≤ min (highT g c) y)
theorem sadTo_succ (g : Gd) (a b : Nat → Int) (y : Int) (k : Nat) : sadTo g a b y (k + 1) = if (g.ss.getD k 0 == 0 && decide (max (a k) (b k) ≤ min (highT g k) y)) = true then sadTo g a b y k ++ [k] else sadTo g a b y k := by
  unfold sadTo
  rw [List.range_succ, List.filter_append, List.filter_cons, List.filter_nil]
  split
  · rename_i h; simp only [h, if_true]
  · rename_i h; simp only [h, if_false, List.append_nil]
theorem sadTo_len (g : Gd) (a b : Nat → Int) (y : Int) (k : Nat) : (sadTo g a b y k).length ≤ k := by
  unfold sadTo
  exact Nat.le_trans (List.length_filter_le _ _) (by simp)
/-- what Saddles answers -/
def SaddlesAns (wd : Int) (hs : List (Int × Int)) (ss : List Int) (w : World) (e : Ending) (w' : World) : Prop :=
  ∃ v x y er, ∃ L : List Nat, e = .returned (.tuple #[v, .int .i64 er]) ∧ Below w.heap.size w w' ∧ SadAns wd hs ss x y er ∧ w'.ownsRow w.heap.size 3 1 v L.length (ints (L.map Int.ofNat)) ∧ (er ≠ 0 → L = []) ∧
    (er = 0 → ∃ a b, IsPass ⟨wd.toNat, hs, ss⟩ (lowT ⟨wd.toNat, hs, ss⟩) 1 a ∧ IsPass ⟨wd.toNat, hs, ss⟩ (lowT ⟨wd.toNat, hs, ss⟩) 2 b ∧ L = sadList ⟨wd.toNat, hs, ss⟩ a b y)

set_option maxRecDepth 100000 in
set_option maxHeartbeats 2000000 in
theorem Saddles_any {B : Nat} {wd : Int} {hv sv : Value} {hs : List (Int × Int)} {ss : List Int} {w : World} (hB : B ≤ w.heap.size) (hh : RS B w hv hs.length (spans hs)) (hss : RS B w sv ss.length (ints ss)) :
    Calls Try.prog 23 #[.agg #[.int .i64 wd, hv, sv]] w fun e w' => SaddlesAns wd hs ss w e w' := by
  have B1 : Below w.heap.size w (w.alloc (.cells #[.int .i64 wd, hv, sv] 25)) := (Below.refl _ w).alloc (Nat.le_refl _) _
  have CO := Lib.hid (crossed_ans (B := B) (wd := wd) (by simp; omega) (hh.below (B1.mono hB)) (hss.below (B1.mono hB)))
  obtain ⟨ha, hcap, rfl, hha⟩ := hh
  obtain ⟨sa, scap, rfl, hsa⟩ := hss
  have HR := Lib.hid (And.intro hha hsa)
  clear hha hsa
  go_enter Try.func23, Try.ntmps23
  go_wp2_with fail
  have z1 : (w.alloc (.cells #[.int .i64 wd, .slice ha hs.length hcap, .slice sa ss.length scap] 25)).cell? ⟨w.heap.size, 1, none⟩ = some (.slice ha hs.length hcap) := by simp [go_sem]
  have z2 : (w.alloc (.cells #[.int .i64 wd, .slice ha hs.length hcap, .slice sa ss.length scap] 25)).cell? ⟨w.heap.size, 2, none⟩ = some (.slice sa ss.length scap) := by simp [go_sem]
  refine CO.out.mono ?_
  rintro e w1 ⟨p, x, y, er, rfl, hb, hans, hno, hyes⟩
  have r1 := cell_on hb z1
  have r2 := cell_on hb z2
  have hs1 : w.heap.size + 1 ≤ w1.heap.size := by have := hb.size; simpa using this
  have BR := B1.trans (hb.mono (by simp))
  have HA := Lib.hid hans
  clear z1 z2 hb B1 CO hans
  by_cases her : er = 0
  · subst her
    obtain ⟨q, rfl, hq, HW, HM⟩ := hyes rfl
    have hq : w.heap.size + 1 ≤ q := by simpa using hq
    have hqw := HW.lt
    have HWM := Lib.hid HW
    have HG := Lib.hid (openErr_ok HA.out.good.1)
    have HZ := Lib.hid (openErr_zero HA.out.good.1)
    clear hno hyes HW HM
    have B2 : Below w1.heap.size w1 (w1.alloc (.cells #[.int .i64 x, .int .i64 y] 54)) := (Below.refl _ w1).alloc (Nat.le_refl _) _
    have y1 : (w1.alloc (.cells #[.int .i64 x, .int .i64 y] 54)).cell? ⟨w1.heap.size, 1, none⟩ = some (.int .i64 y) := cell_new w1 #[.int .i64 x, .int .i64 y] 54 1 (by simp)
    have hs2 : (w1.alloc (.cells #[.int .i64 x, .int .i64 y] 54)).heap.size = w1.heap.size + 1 := by simp
    have HY := Lib.hid (And.intro B2 (And.intro y1 (And.intro (cell_on B2 r1) (cell_on B2 r2))))
    clear y1 B2 r1 r2
    go_wp2_with fail
    generalize (w1.alloc (.cells #[.int .i64 x, .int .i64 y] 54)) = w2 at HY hs2 ⊢
    refine (low_any _).mono ?_
    rintro e w3 ⟨rfl, hb3⟩
    have H3 := HY.out.1.trans (hb3.mono (by omega))
    have hs3 := H3.size
    have HH := Lib.hid (heights_low HG.out (by omega) ((HWM.out.at HWM.out.lt (by omega)).below H3))
    have Y3 := Lib.hid (And.intro (cell_on hb3 HY.out.2.1) (And.intro (cell_on hb3 HY.out.2.2.1) (cell_on hb3 HY.out.2.2.2)))
    clear HY hb3 hs2
    go_wp2_with fail
    refine HH.out.mono ?_
    clear HH
    rintro e w4 ⟨v4, rfl, ho4, hb4⟩
    have H4 := H3.trans (hb4.mono hs3)
    have hs4 := H4.size
    have HS := Lib.hid (passes_any (B := w4.heap.size) (s := 1) HG.out (Nat.le_refl _) (((HWM.out.at HWM.out.lt (by omega)).below H4).mono hs4) (by simpa using HG.out.hn) (low_range HZ.out.2.2.1) (RS.of_owns' ho4 (by simp)))
    have HO4 := Lib.hid ho4
    have Y4 := Lib.hid (And.intro (cell_on hb4 Y3.out.1) (And.intro (cell_on hb4 Y3.out.2.1) (cell_on hb4 Y3.out.2.2)))
    clear Y3 hb4 hs3 H3 ho4
    go_wp2_with fail
    refine HS.out.mono ?_
    clear HS
    rintro e w5 ⟨a, rfl, ha5, hb5⟩
    have H5 := H4.trans (hb5.mono hs4)
    have hs5 := H5.size
    have HPA := Lib.hid ha5
    have HS := Lib.hid (passes_any (B := w5.heap.size) (s := 2) HG.out (Nat.le_refl _) (((HWM.out.at HWM.out.lt (by omega)).below H5).mono hs5) (by simpa using HG.out.hn) (low_range HZ.out.2.2.1) (RS.of_owns' (owns_below HO4.out hb5) (by simp)))
    have Y5 := Lib.hid (And.intro (cell_on hb5 Y4.out.1) (And.intro (cell_on hb5 Y4.out.2.1) (cell_on hb5 Y4.out.2.2)))
    clear Y4 hb5 hs4 H4 ha5 HO4
    go_wp2_with fail
    refine HS.out.mono ?_
    clear HS
    rintro e w6 ⟨b, rfl, hb6', hb6⟩
    have H6 := H5.trans (hb6.mono hs5)
    have hs6 := H6.size
    have HPB := Lib.hid hb6'
    have Y6 := Lib.hid (And.intro (cell_on hb6 Y5.out.1) (And.intro (cell_on hb6 Y5.out.2.1) (cell_on hb6 Y5.out.2.2)))
    clear Y5 hb6 hs5 H5 hb6'
    go_wp2_with fail
    obtain ⟨W1, w7, e1, e2, g1, g2, hb7, hs7⟩ := two_levels (P := Try.prog) w6 a b
    rw [e1]
    have E2 := Lib.hid e2
    clear e1 e2
    simp only [Result.andThen_ok, Oper.upon]
    go_wp2_with fail
    rw [E2.out]
    simp only [Result.andThen_ok, Oper.upon]
    clear E2
    have H7 := H6.trans (hb7.mono hs6)
    have q1 := cell_on hb7 Y6.out.2.1
    have Y7 := Lib.hid (And.intro (cell_on hb7 Y6.out.1) (And.intro (cell_on hb7 Y6.out.2.1) (And.intro (cell_on hb7 Y6.out.2.2) (BR.trans (H7.mono (by omega))))))
    have hl : hs.length ≤ 100 := by have := HG.out.n1; have := HG.out.hn; simp at *; omega
    have hsl : ss.length = hs.length := HG.out.hn.symm
    have HGG := Lib.hid (And.intro g1 g2)
    have hq7 : w1.heap.size + 1 ≤ w6.heap.size := by have := World.block_lt_of_cell? _ _ Y6.out.1; dsimp only at this; omega
    clear hb7 Y6 H6 H7 g1 g2
    go_wp2
    obtain ⟨i0, hi, hz0, hz1, hz2⟩ := info_parts Try.infoInt
    have HI := Lib.hid (And.intro hi (And.intro hz0 (And.intro hz1 hz2)))
    clear hi hz0 hz1 hz2
    go_loopw [10, 34] (fun v i wr => ∃ k : Nat, k ≤ hs.length ∧ i = .int .i64 k ∧ wr.ownsRow w7.heap.size 3 1 v (sadTo ⟨wd.toNat, hs, ss⟩ a b y k).length (ints ((sadTo ⟨wd.toNat, hs, ss⟩ a b y k).map Int.ofNat)) ∧ Below w7.heap.size w7 wr) (fun _ i _ => hs.length - (intOf i).toNat)
    case atStart => exact ⟨0, Nat.zero_le _, rfl, World.ownsRow_nil _ _ _ _, Below.refl _ _⟩
    case round =>
      obtain ⟨k, hk, rfl, hown, hbr⟩ := hrel
      have hsr := hbr.size
      by_cases hlt : k < hs.length
      · obtain ⟨hb, hoff, rfl, hhb, hcell⟩ := HR.out.1 (spans_ne (by omega))
        obtain ⟨sb, soff, rfl, hsb, hsc⟩ := HR.out.2 (ints_ne (by omega))
        obtain ⟨lo, hlo⟩ : ∃ lo, lo = (hs.getD k (0, 0)).1 := ⟨_, rfl⟩
        obtain ⟨up, hup⟩ : ∃ up, up = (hs.getD k (0, 0)).2 := ⟨_, rfl⟩
        obtain ⟨z, hz⟩ : ∃ z, z = ss.getD k 0 := ⟨_, rfl⟩
        obtain ⟨x1, hx1⟩ : ∃ x1, x1 = a k := ⟨_, rfl⟩
        obtain ⟨x2, hx2⟩ : ∃ x2, x2 = b k := ⟨_, rfl⟩
        have BW : Below w.heap.size w wr := Y7.out.2.2.2.trans (hbr.mono (by omega))
        have c0 : wr.cell? ⟨hb, hoff + k * 2, none⟩ = some (.int .i64 lo) := by rw [hlo, List.getD_eq_getElem?_getD, List.getElem?_eq_getElem hlt]; exact cell_below BW (hcell _ _ (spans_lo _ k hlt)) (by dsimp only; omega)
        have c1 : wr.cell? ⟨hb, hoff + k * 2 + 1, none⟩ = some (.int .i64 up) := by rw [hup, List.getD_eq_getElem?_getD, List.getElem?_eq_getElem hlt]; exact cell_below BW (hcell _ _ (spans_hi _ k hlt)) (by dsimp only; omega)
        have c2 : wr.cell? ⟨sb, soff + k, none⟩ = some (.int .i64 z) := by rw [hz]; exact cell_below BW (hsc k _ (ints_at' _ _ (by omega))) (by dsimp only; omega)
        have c3 : wr.cell? ⟨w.heap.size, 2, none⟩ = some (.slice (some ⟨sb, soff, none⟩) ss.length scap) := cell_on hbr Y7.out.2.2.1
        have c4 : wr.cell? ⟨w6.heap.size, k, none⟩ = some (.int .i64 x1) := by rw [hx1]; exact cell_on hbr (lev_at HGG.out.1 (by omega))
        have c5 : wr.cell? ⟨w6.heap.size + 1, k, none⟩ = some (.int .i64 x2) := by rw [hx2]; exact cell_on hbr (lev_at HGG.out.2 (by omega))
        have c6 : wr.cell? ⟨w1.heap.size, 1, none⟩ = some (.int .i64 y) := cell_on hbr Y7.out.1
        have hcond : Hid ((ss.getD k 0 == 0 && decide (max (a k) (b k) ≤ min (highT ⟨wd.toNat, hs, ss⟩ k) y)) = (z == 0 && decide (max x1 x2 ≤ min up y))) := Lib.hid (by rw [highT_eq, hz, hx1, hx2, hup])
        have HO := Lib.hid hown
        have hk1 : (k : Int) < 100 := by omega
        have HLen : Hid ((sadTo ⟨wd.toNat, hs, ss⟩ a b y k).length ≤ 100) := Lib.hid (Nat.le_trans (sadTo_len _ _ _ _ _) (by omega))
        clear hlo hup hz hx1 hx2 hown hsc hcell BW
        go_wp2_with fail
        have hC : (fun W => W.cell? ⟨w.heap.size, 2, none⟩ = some (.slice (some ⟨sb, soff, none⟩) ss.length scap) ∧ W.cell? ⟨sb, soff + k, none⟩ = some (.int .i64 z) ∧ W.cell? ⟨w6.heap.size, k, none⟩ = some (.int .i64 x1) ∧ W.cell? ⟨w6.heap.size + 1, k, none⟩ = some (.int .i64 x2) ∧ W.cell? ⟨wr.heap.size, 1, none⟩ = some (.int .i64 up) ∧ W.cell? ⟨w1.heap.size, 1, none⟩ = some (.int .i64 y)) (wr.alloc (.cells #[.int .i64 lo, .int .i64 up] 54)).drew := ⟨cell_al _ c3, cell_al _ c2, cell_al _ c4, cell_al _ c5, cell_new wr #[.int .i64 lo, .int .i64 up] 54 1 (by simp), cell_al _ c6⟩
        have H9 : Below wr.heap.size wr (wr.alloc (.cells #[.int .i64 lo, .int .i64 up] 54)).drew := ((Below.refl _ wr).alloc (Nat.le_refl _) _).drew
        have HC := Lib.hid hC
        clear c0 c1 c2 c3 c4 c5 c6 hC
        by_cases hz0 : z = 0
        · have hz1 : (z == 0) = true := by simpa using hz0
          have hC := HC.out
          refine Lim.regC' (fun W => W.cell? ⟨w.heap.size, 2, none⟩ = some (.slice (some ⟨sb, soff, none⟩) ss.length scap) ∧ W.cell? ⟨sb, soff + k, none⟩ = some (.int .i64 z) ∧ W.cell? ⟨w6.heap.size, k, none⟩ = some (.int .i64 x1) ∧ W.cell? ⟨w6.heap.size + 1, k, none⟩ = some (.int .i64 x2) ∧ W.cell? ⟨wr.heap.size, 1, none⟩ = some (.int .i64 up) ∧ W.cell? ⟨w1.heap.size, 1, none⟩ = some (.int .i64 y)) [] #[false, false, false, false, false, false, false, false, false, false, false, false, false, false, false, false, false, false, false, false, false, false] (by kernel_rfl) rfl ?_
          refine Lim.stepR 0 (fun _ => trivial) rfl (by kernel_rfl) (fun _ _ _ _ h => h) hC rfl ?_; apply Exists.intro; refine ⟨?_, ?_⟩
          · rintro w ⟨r1, r2, r3, r4, r5, r6⟩; go_simp; try with_reducible rfl
          simp only [Act.put, List.setIfInBounds_toArray, List.set_cons_succ, List.set_cons_zero]
          refine Lim.stepR 1 (fun _ => trivial) rfl (by kernel_rfl) (fun _ _ _ _ h => h) hC rfl ?_; apply Exists.intro; refine ⟨?_, ?_⟩
          · rintro w ⟨r1, r2, r3, r4, r5, r6⟩; go_simp; try with_reducible rfl
          simp only [Act.put, List.setIfInBounds_toArray, List.set_cons_succ, List.set_cons_zero]
          refine Lim.stepR 2 (fun _ => trivial) rfl (by kernel_rfl) (fun _ _ _ _ h => h) hC rfl ?_; apply Exists.intro; refine ⟨?_, ?_⟩
          · rintro w ⟨r1, r2, r3, r4, r5, r6⟩; go_simp; try with_reducible rfl
          simp only [Act.put, List.setIfInBounds_toArray, List.set_cons_succ, List.set_cons_zero]
          refine Lim.stepR 3 (fun _ => trivial) rfl (by kernel_rfl) (fun _ _ _ _ h => h) hC rfl ?_; apply Exists.intro; refine ⟨?_, ?_⟩
          · rintro w ⟨r1, r2, r3, r4, r5, r6⟩; go_simp; try with_reducible rfl
          simp only [Act.put, List.setIfInBounds_toArray, List.set_cons_succ, List.set_cons_zero]
          refine Lim.stepR 4 (fun _ => trivial) rfl (by kernel_rfl) (fun _ _ _ _ h => h) hC rfl ?_; apply Exists.intro; refine ⟨?_, ?_⟩
          · rintro w ⟨r1, r2, r3, r4, r5, r6⟩; go_simp; try with_reducible rfl
          simp only [Act.put, List.setIfInBounds_toArray, List.set_cons_succ, List.set_cons_zero]
          refine Lim.stepR 5 (fun _ => trivial) rfl (by kernel_rfl) (fun _ _ _ _ h => h) hC rfl ?_; apply Exists.intro; refine ⟨?_, ?_⟩
          · rintro w ⟨r1, r2, r3, r4, r5, r6⟩; go_simp; try with_reducible rfl
          simp only [Act.put, List.setIfInBounds_toArray, List.set_cons_succ, List.set_cons_zero]
          refine Lim.stepR 6 (fun _ => trivial) rfl (by kernel_rfl) (fun _ _ _ _ h => h) hC rfl ?_; apply Exists.intro; refine ⟨?_, ?_⟩
          · rintro w ⟨r1, r2, r3, r4, r5, r6⟩; go_simp; try with_reducible rfl
          simp only [Act.put, List.setIfInBounds_toArray, List.set_cons_succ, List.set_cons_zero]
          refine Lim.stepR 7 (fun _ => trivial) rfl (by kernel_rfl) (fun _ _ _ _ h => h) hC rfl ?_; apply Exists.intro; refine ⟨?_, ?_⟩
          · rintro w ⟨r1, r2, r3, r4, r5, r6⟩; go_simp; try with_reducible rfl
          simp only [Act.put, List.setIfInBounds_toArray, List.set_cons_succ, List.set_cons_zero]
          refine Lim.stepR 8 (fun _ => trivial) rfl (by kernel_rfl) (fun _ _ _ _ h => h) hC rfl ?_; apply Exists.intro; refine ⟨?_, ?_⟩
          · rintro w ⟨r1, r2, r3, r4, r5, r6⟩; go_simp; try with_reducible rfl
          simp only [Act.put, List.setIfInBounds_toArray, List.set_cons_succ, List.set_cons_zero]
          refine Lim.stepR 9 (fun _ => trivial) rfl (by kernel_rfl) (fun _ _ _ _ h => h) hC rfl ?_; apply Exists.intro; refine ⟨?_, ?_⟩
          · rintro w ⟨r1, r2, r3, r4, r5, r6⟩; go_simp; try with_reducible rfl
          simp only [Act.put, List.setIfInBounds_toArray, List.set_cons_succ, List.set_cons_zero]
          refine Lim.stepR 10 (fun _ => trivial) rfl (by kernel_rfl) (fun _ _ _ _ h => h) hC rfl ?_; apply Exists.intro; refine ⟨?_, ?_⟩
          · rintro w ⟨r1, r2, r3, r4, r5, r6⟩; go_simp; try with_reducible rfl
          simp only [Act.put, List.setIfInBounds_toArray, List.set_cons_succ, List.set_cons_zero]
          refine Lim.stepR 11 (fun _ => trivial) rfl (by kernel_rfl) (fun _ _ _ _ h => h) hC rfl ?_; apply Exists.intro; refine ⟨?_, ?_⟩
          · rintro w ⟨r1, r2, r3, r4, r5, r6⟩; go_simp; try with_reducible rfl
          simp only [Act.put, List.setIfInBounds_toArray, List.set_cons_succ, List.set_cons_zero]
          refine Lim.stepR 12 (fun _ => trivial) rfl (by kernel_rfl) (fun _ _ _ _ h => h) hC rfl ?_; apply Exists.intro; refine ⟨?_, ?_⟩
          · rintro w ⟨r1, r2, r3, r4, r5, r6⟩; go_simp; try with_reducible rfl
          simp only [Act.put, List.setIfInBounds_toArray, List.set_cons_succ, List.set_cons_zero]
          refine Lim.stepR 15 (fun _ => trivial) rfl (by kernel_rfl) (fun _ _ _ _ h => h) hC rfl ?_; apply Exists.intro; refine ⟨?_, ?_⟩
          · rintro w ⟨r1, r2, r3, r4, r5, r6⟩; go_simp; try with_reducible rfl
          simp only [Act.put, List.setIfInBounds_toArray, List.set_cons_succ, List.set_cons_zero]
          refine Lim.stepR 16 (fun _ => trivial) rfl (by kernel_rfl) (fun _ _ _ _ h => h) hC rfl ?_; apply Exists.intro; refine ⟨?_, ?_⟩
          · rintro w ⟨r1, r2, r3, r4, r5, r6⟩; go_simp; try with_reducible rfl
          simp only [Act.put, List.setIfInBounds_toArray, List.set_cons_succ, List.set_cons_zero]
          refine Lim.stepR 17 (fun _ => trivial) rfl (by kernel_rfl) (fun _ _ _ _ h => h) hC rfl ?_; apply Exists.intro; refine ⟨?_, ?_⟩
          · rintro w ⟨r1, r2, r3, r4, r5, r6⟩; go_simp; try with_reducible rfl
          simp only [Act.put, List.setIfInBounds_toArray, List.set_cons_succ, List.set_cons_zero]
          refine Lim.stepR 18 (fun _ => trivial) rfl (by kernel_rfl) (fun _ _ _ _ h => h) hC rfl ?_; apply Exists.intro; refine ⟨?_, ?_⟩
          · rintro w ⟨r1, r2, r3, r4, r5, r6⟩; go_simp; try with_reducible rfl
          simp only [Act.put, List.setIfInBounds_toArray, List.set_cons_succ, List.set_cons_zero]
          refine Lim.stepR 19 (fun _ => trivial) rfl (by kernel_rfl) (fun _ _ _ _ h => h) hC rfl ?_; apply Exists.intro; refine ⟨?_, ?_⟩
          · rintro w ⟨r1, r2, r3, r4, r5, r6⟩; go_simp; try with_reducible rfl
          simp only [Act.put, List.setIfInBounds_toArray, List.set_cons_succ, List.set_cons_zero]
          refine Lim.stepE 13 (fun _ => trivial) rfl (by kernel_rfl) rfl (fun K hK => ?_)   -- E buildSlice
          go_simp
          have hC2 : (fun W => W.cell? ⟨w.heap.size, 2, none⟩ = some (.slice (some ⟨sb, soff, none⟩) ss.length scap) ∧ W.cell? ⟨sb, soff + k, none⟩ = some (.int .i64 z) ∧ W.cell? ⟨w6.heap.size, k, none⟩ = some (.int .i64 x1) ∧ W.cell? ⟨w6.heap.size + 1, k, none⟩ = some (.int .i64 x2) ∧ W.cell? ⟨wr.heap.size, 1, none⟩ = some (.int .i64 up) ∧ W.cell? ⟨w1.heap.size, 1, none⟩ = some (.int .i64 y)) ((wr.alloc (.cells #[.int .i64 lo, .int .i64 up] 54)).alloc (.cells #[.int .i64 x2] 3)).drew := ⟨cell_al _ hC.1, cell_al _ hC.2.1, cell_al _ hC.2.2.1, cell_al _ hC.2.2.2.1, cell_al _ hC.2.2.2.2.1, cell_al _ hC.2.2.2.2.2⟩
          refine hK _ _ hC2 ?_
          simp only [Act.put, List.setIfInBounds_toArray, List.set_cons_succ, List.set_cons_zero]
          refine Lim.stepE 14 (fun _ => trivial) rfl (by kernel_rfl) rfl (fun K hK => ?_)   -- E call
          go_simp
          refine ⟨rfl, (callsIn_wide.2 (greatest_any x1 _ 1 (wr.heap.size + 2) [x2] _ (by simp) ⟨_, _, rfl, fun _ => ⟨_, _, rfl, by simp, ?_⟩⟩)).mono ?_⟩
          · intro j u hj
            obtain rfl : j = 0 := by
              rcases Nat.eq_zero_or_pos j with h | h
              · exact h
              · rw [List.getElem?_eq_none (by simp [ints]; omega)] at hj; cases hj
            obtain rfl : Value.int .i64 x2 = u := by simpa [ints] using hj
            show (((wr.alloc (.cells #[.int .i64 lo, .int .i64 up] 54)).alloc (.cells #[.int .i64 x2] 3)).cell? _) = _
            have := cell_new (wr.alloc (.cells #[.int .i64 lo, .int .i64 up] 54)) #[.int .i64 x2] 3 0 (by simp)
            rw [World.size_alloc] at this
            exact this
          rintro e W2 ⟨rfl, rfl⟩
          refine hK _ _ hC2 ?_
          simp only [Act.put, List.setIfInBounds_toArray, List.set_cons_succ, List.set_cons_zero]
          refine Lim.stepR 20 (fun _ => trivial) rfl (by kernel_rfl) (fun _ _ _ _ h => h) hC2 rfl ?_; apply Exists.intro; refine ⟨?_, ?_⟩
          · rintro w ⟨r1, r2, r3, r4, r5, r6⟩; go_simp; try with_reducible rfl
          simp only [Act.put, List.setIfInBounds_toArray, List.set_cons_succ, List.set_cons_zero]
          refine Lim.stepR 21 (fun _ => trivial) rfl (by kernel_rfl) (fun _ _ _ _ h => h) hC2 rfl ?_; apply Exists.intro; refine ⟨?_, ?_⟩
          · rintro w ⟨r1, r2, r3, r4, r5, r6⟩; go_simp; try with_reducible rfl
          simp only [Act.put, List.setIfInBounds_toArray, List.set_cons_succ, List.set_cons_zero]
          refine Lim.stepD (by kernel_rfl) ?_
          have H10 : Below wr.heap.size wr ((wr.alloc (.cells #[.int .i64 lo, .int .i64 up] 54)).alloc (.cells #[.int .i64 x2] 3)).drew := (((Below.refl _ wr).alloc (Nat.le_refl _) _).alloc (by simp) _).drew
          clear hC hC2 H9
          generalize ((wr.alloc (.cells #[.int .i64 lo, .int .i64 up] 54)).alloc (.cells #[.int .i64 x2] 3)).drew = w9 at H10 ⊢
          obtain ⟨d, hd⟩ : ∃ d, decide (maxL [x2] x1 ≤ min up y) = d := ⟨_, rfl⟩
          simp only [hd]
          have hcf : (ss.getD k 0 == 0 && decide (max (a k) (b k) ≤ min (highT ⟨wd.toNat, hs, ss⟩ k) y)) = d := by rw [hcond.out, hz1, ← hd]; rfl
          have HCF := Lib.hid hcf
          have O10 := Lib.hid (owns_below HO.out H10)
          have hs10 := H10.size
          clear hcf hd
          cases d with
          | true =>
            go_wp2_with (at_builtin; refine wpList_append_own _ rfl _ _ 23 rfl w7.heap.size 3 i0 (.int .i64 0) 1 8 Try.underlying23 HI.out.1 HI.out.2.1 HI.out.2.2.1 HI.out.2.2.2 rfl (by decide) _ _ _ rfl (O10.out.alloc _) ⟨w9.heap.size, 0, none⟩ 1 1 [.int .i64 k] rfl rfl (cell_one_new _ _ _) (by simp [Value.oneCell']) (by have := HLen.out; unfold maxLen; omega) (by have := HLen.out; omega) (by simp; omega) ?_; intro v' w11 hown3 hgrow _; have H3 := Lib.hid (And.intro hown3 hgrow); clear hown3 hgrow)
            go_roundw
            case rel =>
              refine ⟨k + 1, by omega, by go_num, ?_, ?_⟩
              · rw [sadTo_succ, if_pos (by rw [show (⟨wd.toNat, hs, ss⟩ : Gd).ss = ss from rfl]; exact HCF.out)]
                have := H3.out.1
                simpa [ints] using this
              · exact ((hbr.trans (H10.mono hsr)).alloc (by omega) _).grown H3.out.2 (by simp; omega) (fun j e => by have := (O10.out.alloc (.cells #[.int .i64 k] 3)).lt j e; omega)
            case measure => simp [intOf]; omega
          | false =>
            go_wp2
            go_roundw
            case rel =>
              refine ⟨k + 1, by omega, by go_num, ?_, hbr.trans (H10.mono hsr)⟩
              rw [sadTo_succ, if_neg (fun h => by have h2 := HCF.out; rw [show (⟨wd.toNat, hs, ss⟩ : Gd).ss = ss from rfl] at h; rw [h2] at h; cases h)]
              exact O10.out
            case measure => simp [intOf]; omega
        · have hz1 : (z == 0) = false := by simpa using hz0
          have hC := HC.out
          refine Lim.regC' (fun W => W.cell? ⟨w.heap.size, 2, none⟩ = some (.slice (some ⟨sb, soff, none⟩) ss.length scap) ∧ W.cell? ⟨sb, soff + k, none⟩ = some (.int .i64 z) ∧ W.cell? ⟨w6.heap.size, k, none⟩ = some (.int .i64 x1) ∧ W.cell? ⟨w6.heap.size + 1, k, none⟩ = some (.int .i64 x2) ∧ W.cell? ⟨wr.heap.size, 1, none⟩ = some (.int .i64 up) ∧ W.cell? ⟨w1.heap.size, 1, none⟩ = some (.int .i64 y)) [] #[false, false, false, false, false, false, false, false, false, false, false, false, false, false, false, false, false, false, false, false, false, false] (by kernel_rfl) rfl ?_
          refine Lim.stepR 0 (fun _ => trivial) rfl (by kernel_rfl) (fun _ _ _ _ h => h) hC rfl ?_; apply Exists.intro; refine ⟨?_, ?_⟩
          · rintro w ⟨r1, r2, r3, r4, r5, r6⟩; go_simp; try with_reducible rfl
          simp only [Act.put, List.setIfInBounds_toArray, List.set_cons_succ, List.set_cons_zero]
          refine Lim.stepR 1 (fun _ => trivial) rfl (by kernel_rfl) (fun _ _ _ _ h => h) hC rfl ?_; apply Exists.intro; refine ⟨?_, ?_⟩
          · rintro w ⟨r1, r2, r3, r4, r5, r6⟩; go_simp; try with_reducible rfl
          simp only [Act.put, List.setIfInBounds_toArray, List.set_cons_succ, List.set_cons_zero]
          refine Lim.stepR 2 (fun _ => trivial) rfl (by kernel_rfl) (fun _ _ _ _ h => h) hC rfl ?_; apply Exists.intro; refine ⟨?_, ?_⟩
          · rintro w ⟨r1, r2, r3, r4, r5, r6⟩; go_simp; try with_reducible rfl
          simp only [Act.put, List.setIfInBounds_toArray, List.set_cons_succ, List.set_cons_zero]
          refine Lim.stepR 3 (fun _ => trivial) rfl (by kernel_rfl) (fun _ _ _ _ h => h) hC rfl ?_; apply Exists.intro; refine ⟨?_, ?_⟩
          · rintro w ⟨r1, r2, r3, r4, r5, r6⟩; go_simp; try with_reducible rfl
          simp only [Act.put, List.setIfInBounds_toArray, List.set_cons_succ, List.set_cons_zero]
          refine Lim.stepR 4 (fun _ => trivial) rfl (by kernel_rfl) (fun _ _ _ _ h => h) hC rfl ?_; apply Exists.intro; refine ⟨?_, ?_⟩
          · rintro w ⟨r1, r2, r3, r4, r5, r6⟩; go_simp; try with_reducible rfl
          simp only [Act.put, List.setIfInBounds_toArray, List.set_cons_succ, List.set_cons_zero]
          refine Lim.stepR 5 (fun _ => trivial) rfl (by kernel_rfl) (fun _ _ _ _ h => h) hC rfl ?_; apply Exists.intro; refine ⟨?_, ?_⟩
          · rintro w ⟨r1, r2, r3, r4, r5, r6⟩; go_simp; try with_reducible rfl
          simp only [Act.put, List.setIfInBounds_toArray, List.set_cons_succ, List.set_cons_zero]
          refine Lim.stepR 6 (fun _ => trivial) rfl (by kernel_rfl) (fun _ _ _ _ h => h) hC rfl ?_; apply Exists.intro; refine ⟨?_, ?_⟩
          · rintro w ⟨r1, r2, r3, r4, r5, r6⟩; go_simp; try with_reducible rfl
          simp only [Act.put, List.setIfInBounds_toArray, List.set_cons_succ, List.set_cons_zero]
          refine Lim.stepS 7 (fun _ => trivial) rfl (by kernel_rfl) (fun _ _ _ _ h => h) hC rfl ?_
          simp only [Act.put, List.setIfInBounds_toArray, List.set_cons_succ, List.set_cons_zero]
          refine Lim.stepS 8 (fun _ => trivial) rfl (by kernel_rfl) (fun _ _ _ _ h => h) hC rfl ?_
          simp only [Act.put, List.setIfInBounds_toArray, List.set_cons_succ, List.set_cons_zero]
          refine Lim.stepS 9 (fun _ => trivial) rfl (by kernel_rfl) (fun _ _ _ _ h => h) hC rfl ?_
          simp only [Act.put, List.setIfInBounds_toArray, List.set_cons_succ, List.set_cons_zero]
          refine Lim.stepS 10 (fun _ => trivial) rfl (by kernel_rfl) (fun _ _ _ _ h => h) hC rfl ?_
          simp only [Act.put, List.setIfInBounds_toArray, List.set_cons_succ, List.set_cons_zero]
          refine Lim.stepS 11 (fun _ => trivial) rfl (by kernel_rfl) (fun _ _ _ _ h => h) hC rfl ?_
          simp only [Act.put, List.setIfInBounds_toArray, List.set_cons_succ, List.set_cons_zero]
          refine Lim.stepS 12 (fun _ => trivial) rfl (by kernel_rfl) (fun _ _ _ _ h => h) hC rfl ?_
          simp only [Act.put, List.setIfInBounds_toArray, List.set_cons_succ, List.set_cons_zero]
          refine Lim.stepS 13 (fun _ => trivial) rfl (by kernel_rfl) (fun _ _ _ _ h => h) hC rfl ?_
          simp only [Act.put, List.setIfInBounds_toArray, List.set_cons_succ, List.set_cons_zero]
          refine Lim.stepS 14 (fun _ => trivial) rfl (by kernel_rfl) (fun _ _ _ _ h => h) hC rfl ?_
          simp only [Act.put, List.setIfInBounds_toArray, List.set_cons_succ, List.set_cons_zero]
          refine Lim.stepS 15 (fun _ => trivial) rfl (by kernel_rfl) (fun _ _ _ _ h => h) hC rfl ?_
          simp only [Act.put, List.setIfInBounds_toArray, List.set_cons_succ, List.set_cons_zero]
          refine Lim.stepS 16 (fun _ => trivial) rfl (by kernel_rfl) (fun _ _ _ _ h => h) hC rfl ?_
          simp only [Act.put, List.setIfInBounds_toArray, List.set_cons_succ, List.set_cons_zero]
          refine Lim.stepS 17 (fun _ => trivial) rfl (by kernel_rfl) (fun _ _ _ _ h => h) hC rfl ?_
          simp only [Act.put, List.setIfInBounds_toArray, List.set_cons_succ, List.set_cons_zero]
          refine Lim.stepS 18 (fun _ => trivial) rfl (by kernel_rfl) (fun _ _ _ _ h => h) hC rfl ?_
          simp only [Act.put, List.setIfInBounds_toArray, List.set_cons_succ, List.set_cons_zero]
          refine Lim.stepS 19 (fun _ => trivial) rfl (by kernel_rfl) (fun _ _ _ _ h => h) hC rfl ?_
          simp only [Act.put, List.setIfInBounds_toArray, List.set_cons_succ, List.set_cons_zero]
          refine Lim.stepS 20 (fun _ => trivial) rfl (by kernel_rfl) (fun _ _ _ _ h => h) hC rfl ?_
          simp only [Act.put, List.setIfInBounds_toArray, List.set_cons_succ, List.set_cons_zero]
          refine Lim.stepR 21 (fun _ => trivial) rfl (by kernel_rfl) (fun _ _ _ _ h => h) hC rfl ?_; apply Exists.intro; refine ⟨?_, ?_⟩
          · rintro w ⟨r1, r2, r3, r4, r5, r6⟩; go_simp; try with_reducible rfl
          simp only [Act.put, List.setIfInBounds_toArray, List.set_cons_succ, List.set_cons_zero]
          refine Lim.stepD (by kernel_rfl) ?_
          clear hC
          generalize (wr.alloc (.cells #[.int .i64 lo, .int .i64 up] 54)).drew = w9 at H9 ⊢
          have hcf : (ss.getD k 0 == 0 && decide (max (a k) (b k) ≤ min (highT ⟨wd.toNat, hs, ss⟩ k) y)) = false := by rw [hcond.out, hz1]; rfl
          have HCF := Lib.hid hcf
          clear hcf
          go_wp2
          go_roundw
          case rel =>
            refine ⟨k + 1, by omega, by go_num, ?_, hbr.trans (H9.mono hsr)⟩
            rw [sadTo_succ, if_neg (fun h => by have h2 := HCF.out; rw [show (⟨wd.toNat, hs, ss⟩ : Gd).ss = ss from rfl] at h; rw [h2] at h; cases h)]
            exact owns_below HO.out H9
          case measure => simp [intOf]; omega
      · obtain rfl : k = hs.length := by omega
        go_wp2
        go_ret2
        exact ⟨_, x, y, 0, sadList ⟨wd.toNat, hs, ss⟩ a b y, rfl, Y7.out.2.2.2.trans (hbr.mono (by omega)), HA.out, by rw [show sadList ⟨wd.toNat, hs, ss⟩ a b y = sadTo ⟨wd.toNat, hs, ss⟩ a b y hs.length from by rw [← hsl]; rfl]; exact owns_mono hown (by omega), fun h => absurd rfl h, fun _ => ⟨a, b, HPA.out, HPB.out, rfl⟩⟩
  · have hp := hno her
    subst hp
    have he1 : (er == 0) = false := by simpa using her
    clear hno hyes
    go_wp2
    go_ret2
    exact ⟨_, x, y, er, [], rfl, BR.alloc (by omega) _, HA.out, World.ownsRow_nil _ _ _ _, fun _ => rfl, fun h => absurd h her⟩
end Go.Proofs.Ytdgibmgifgdpbaa
