/-
  Parts of the proof, in the order in which they build: PassMem, Passes, Slices, Opened, Saddle, Crossed, Saddles.
-/
import Derived.Deep.MidRow
import Derived.Deep.LoopGhost
import Derived.Test.YtohjinbgbfggcaaR4
import Derived.Test.YtohjinbgbfggcaaR6
set_option linter.unusedVariables false
set_option linter.unusedSimpArgs false
/-
  What lies in memory while ridge's method passes runs.
-/
namespace Go.Proofs.Ytohjinbgbfggcaa.Rg
open Go.RowKit Go.Shelf
open Lim

/-- an address with that offset in a block just laid -/
theorem cell_new (w : World) (cs : Array Value) (t k : Nat) (h : k < cs.size) : (w.alloc (.cells cs t)).cell? ⟨w.heap.size, k, none⟩ = some cs[k] := by
  rw [World.cell?_alloc_new]; simp [h]
theorem frozen_new (w : World) (cs : Array Value) (t k : Nat) (h : k < cs.size) : (w.alloc (.cells cs t)).frozen? ⟨w.heap.size, k, none⟩ = false := by
  exact World.frozen?_alloc_new ..
theorem setCell_far (w : World) {p q i j : Nat} (v : Value) (h : p ≠ q) : (w.setCell ⟨p, i, none⟩ v).cell? ⟨q, j, none⟩ = w.cell? ⟨q, j, none⟩ := World.cell?_setCell_other w _ _ _ (fun e => h (congrArg Addr.block e))
theorem setCell_off (w : World) {p i j : Nat} (v : Value) (h : i ≠ j) : (w.setCell ⟨p, i, none⟩ v).cell? ⟨p, j, none⟩ = w.cell? ⟨p, j, none⟩ := World.cell?_setCell_other w _ _ _ (fun e => h (congrArg Addr.off e))

theorem zeroLevel : Try.zeroCells127 = (List.replicate 100 (Value.int .i64 0)).toArray := by kernel_rfl

theorem _root_.Go.Proofs.Ytohjinbgbfggcaa.Lim.ownsQ.len {w : World} {base e : Nat} {v : Value} {xs : List Value} (h : ownsQ w base e v xs) : ∃ a cap, v = .slice a xs.length cap := by
  rcases h with ⟨rfl, rfl⟩ | ⟨g, off, cap, cur, rfl, _⟩
  · exact ⟨_, _, rfl⟩
  · exact ⟨_, _, rfl⟩
theorem keeps_of_below {w w' : World} (h : Below w.heap.size w w') : KeepsOthers w w' :=
  ⟨h.size, fun k _ hk _ => (h.block k (Array.getElem?_eq_some_iff.1 hk).1).trans hk⟩
theorem keeps_of_owns {w w1 : World} {base e : Nat} {v : Value} {xs : List Value} (h : ownsQ w base e v xs) (hg : w.grownBy w1 v.ownBlock) : KeepsOthers w w1 := by
  refine .of_grownBy hg (fun j o hj ho => ?_)
  rcases h with ⟨rfl, _⟩ | ⟨g, off, cap, cur, rfl, hb, hgg, _⟩
  · simp [Value.ownBlock] at hj
  · simp [Value.ownBlock] at hj
    subst hj
    rw [hgg] at ho; cases ho; rfl
/-- marks that all lie below B -/
def MarksLt (S B : Nat) (ds : List Deferred) (w : World) : Prop := ∃ Ds : List Nat, ds = Ds.map markOf ∧ Ds.Nodup ∧ ∀ D ∈ Ds, S ≤ D ∧ D < B ∧ w.heap[D]? = some (.deferred (some []))
theorem MarksLt.of_marks {S : Nat} {ds : List Deferred} {w : World} (h : Marks S ds w) : MarksLt S w.heap.size ds w := by
  obtain ⟨Ds, h1, h2, h3⟩ := h
  exact ⟨Ds, h1, h2, fun D hD => ⟨(h3 D hD).1, (Array.getElem?_eq_some_iff.1 (h3 D hD).2).1, (h3 D hD).2⟩⟩
theorem MarksLt.steady {S B : Nat} {ds : List Deferred} {w w' : World} (h : MarksLt S B ds w) (hs : Steady B w w') : MarksLt S B ds w' := by
  obtain ⟨Ds, h1, h2, h3⟩ := h
  exact ⟨Ds, h1, h2, fun D hD => ⟨(h3 D hD).1, (h3 D hD).2.1, hs.same D _ (h3 D hD).2.2 (.inl (h3 D hD).2.1)⟩⟩
theorem MarksLt.keeps {S B : Nat} {ds : List Deferred} {w w' : World} (h : MarksLt S B ds w) (hs : KeepsOthers w w') : MarksLt S B ds w' := by
  obtain ⟨Ds, h1, h2, h3⟩ := h
  exact ⟨Ds, h1, h2, fun D hD => ⟨(h3 D hD).1, (h3 D hD).2.1, hs.same D _ (h3 D hD).2.2 rfl⟩⟩
theorem _root_.Go.Proofs.Ytohjinbgbfggcaa.Lim.Marks.keep {S : Nat} {ds : List Deferred} {w w' : World} (h : Marks S ds w) (hs : KeepsOthers w w') : Marks S ds w' := by
  obtain ⟨Ds, h1, h2, h3⟩ := h
  exact ⟨Ds, h1, h2, fun D hD => ⟨(h3 D hD).1, hs.same D _ (h3 D hD).2 rfl⟩⟩
theorem MarksLt.cons {S B : Nat} {ds : List Deferred} {w : World} (h : MarksLt S B ds w) (hB : S ≤ B) {D : Nat} (hD : B ≤ D) (hk : w.heap[D]? = some (.deferred (some []))) : Marks S (markOf D :: ds) w := by
  obtain ⟨Ds, h1, h2, h3⟩ := h
  refine ⟨D :: Ds, by simp [h1], List.nodup_cons.2 ⟨fun hm => by have := (h3 D hm).2.1; omega, h2⟩, fun E hE => ?_⟩
  rcases List.mem_cons.1 hE with rfl | hE
  · exact ⟨by omega, hk⟩
  · exact ⟨(h3 E hE).1, (h3 E hE).2.2⟩

structure PassMem (w : World) (b : Nat) (ta : Option Addr) (n tcap : Nat) (o : Nat → Int) (q : List Nat) (wr : World) : Prop where
  c0 : wr.cell? ⟨w.heap.size, 0, none⟩ = some (.pointer (some ⟨b, 0, none⟩))
  c1 : wr.cell? ⟨w.heap.size + 1, 0, none⟩ = some (.slice ta n tcap)
  z : ∀ k, k < 100 → ∃ v, wr.cell? ⟨w.heap.size + 1 + 1, k, none⟩ = some v ∧ wr.frozen? ⟨w.heap.size + 1 + 1, k, none⟩ = false
  o : ∀ k, k < 100 → wr.cell? ⟨w.heap.size + 1 + 1 + 1, k, none⟩ = some (.int .i64 (o k)) ∧ wr.frozen? ⟨w.heap.size + 1 + 1 + 1, k, none⟩ = false
  q : ∃ v, wr.cell? ⟨w.heap.size + 1 + 1 + 1 + 1, 0, none⟩ = some v ∧ wr.frozen? ⟨w.heap.size + 1 + 1 + 1 + 1, 0, none⟩ = false ∧ ownsQ wr (w.heap.size + 1 + 1 + 1 + 1 + 1) 3 v (ints (q.map Int.ofNat))
  bl : Below w.heap.size w wr

variable {w : World} {b : Nat} {ta : Option Addr} {n tcap : Nat} {o : Nat → Int} {q : List Nat} {wr w' : World}
theorem PassMem.size (h : PassMem w b ta n tcap o q wr) : w.heap.size + 5 ≤ wr.heap.size := by
  obtain ⟨v, hv, _⟩ := h.q
  have := World.block_lt_of_cell? _ _ hv
  simp at this
  omega
theorem PassMem.drew (h : PassMem w b ta n tcap o q wr) : PassMem w b ta n tcap o q wr.drew := ⟨h.c0, h.c1, h.z, h.o, h.q, h.bl.drew⟩
theorem PassMem.below (h : PassMem w b ta n tcap o q wr) (hb : Below wr.heap.size wr w') : PassMem w b ta n tcap o q w' := by
  refine ⟨cell_on hb h.c0, cell_on hb h.c1, fun k hk => ?_, fun k hk => ?_, ?_, h.bl.trans (hb.mono h.bl.size)⟩
  · obtain ⟨v, h1, h2⟩ := h.z k hk; exact ⟨v, cell_on hb h1, frozen_on hb h1 h2⟩
  · obtain ⟨h1, h2⟩ := h.o k hk; exact ⟨cell_on hb h1, frozen_on hb h1 h2⟩
  · obtain ⟨v, h1, h2, h3⟩ := h.q; exact ⟨v, cell_on hb h1, frozen_on hb h1 h2, h3.below hb⟩
theorem PassMem.steady {B : Nat} (h : PassMem w b ta n tcap o q wr) (hb : Steady B wr w') (hB : w.heap.size ≤ B) : PassMem w b ta n tcap o q w' := by
  refine ⟨hb.cell h.c0, hb.cell h.c1, fun k hk => ?_, fun k hk => ?_, ?_, h.bl.steady hb hB h.bl.size⟩
  · obtain ⟨v, h1, h2⟩ := h.z k hk; exact ⟨v, hb.cell h1, (hb.frozen h1).trans h2⟩
  · obtain ⟨h1, h2⟩ := h.o k hk; exact ⟨hb.cell h1, (hb.frozen h1).trans h2⟩
  · obtain ⟨v, h1, h2, h3⟩ := h.q; exact ⟨v, hb.cell h1, (hb.frozen h1).trans h2, h3.steady hb⟩
theorem PassMem.store (h : PassMem w b ta n tcap o q wr) {k : Nat} (hk : k < 100) (x : Int) : PassMem w b ta n tcap (upd o k x) q (wr.setCell ⟨w.heap.size + 1 + 1 + 1, k, none⟩ (.int .i64 x)) := by
  refine ⟨?_, ?_, fun j hj => ?_, fun j hj => ?_, ?_, h.bl.setCell (by first | (simp; done) | (simp; omega) | omega) _⟩
  · rw [setCell_far _ _ (by omega)]; exact h.c0
  · rw [setCell_far _ _ (by omega)]; exact h.c1
  · obtain ⟨v, h1, h2⟩ := h.z j hj
    exact ⟨v, by rw [setCell_far _ _ (by omega)]; exact h1, by rw [World.frozen?_setCell]; exact h2⟩
  · obtain ⟨h1, h2⟩ := h.o j hj
    refine ⟨?_, by rw [World.frozen?_setCell]; exact h2⟩
    by_cases e : j = k
    · subst e; rw [upd_same]; exact World.cell?_setCell_same' _ _ _ (by rw [h1]; rfl)
    · rw [upd_ne _ _ e, setCell_off _ _ (by omega)]; exact h1
  · obtain ⟨v, h1, h2, h3⟩ := h.q
    exact ⟨v, by rw [setCell_far _ _ (by omega)]; exact h1, by rw [World.frozen?_setCell]; exact h2, h3.kept (grownBy_setCell wr ⟨w.heap.size + 1 + 1 + 1, k, none⟩ _) (fun r e => by cases e; simp)⟩
theorem grown_cell {w0 w1 : World} {v : Value} {base : Nat} {xs : List Value} {e : Nat} (hown : ownsQ w0 base e v xs) (hg : w0.grownBy w1 v.ownBlock) {a : Addr} {u : Value} (ha : w0.cell? a = some u) (hb : a.block < base) : w1.cell? a = some u :=
  hg.cell ha (fun e => by have := (hown.lt _ e.symm).1; omega)
theorem grown_frozen {w0 w1 : World} {v : Value} {base : Nat} {xs : List Value} {e : Nat} (hown : ownsQ w0 base e v xs) (hg : w0.grownBy w1 v.ownBlock) {a : Addr} {u : Value} (ha : w0.cell? a = some u) (hb : a.block < base) (hf : w0.frozen? a = false) : w1.frozen? a = false :=
  (hg.frozen_far a (World.block_lt_of_cell? _ _ ha) (fun e => by have := (hown.lt _ e.symm).1; omega)).trans hf
theorem put_cell {Wm w1 W4 : World} {v v' u : Value} {q i j blk : Nat} (hw' : W4 = w1.setCell ⟨q, i, none⟩ v') (hg : Wm.grownBy w1 v.ownBlock) (ha : Wm.cell? ⟨blk, j, none⟩ = some u) (hne : ∀ g, v.ownBlock = some g → blk ≠ g) (hq : q ≠ blk) : W4.cell? ⟨blk, j, none⟩ = some u := by
  rw [hw', setCell_far _ _ hq]; exact hg.cell ha (fun e => hne _ e.symm rfl)
/-- the queue's block lies apart from the blocks S' to S' + 2 -/
def ApartQ (q S' : Nat) (W : World) : Prop := ∀ v g, W.cell? ⟨q, 0, none⟩ = some v → v.ownBlock = some g → g < S' ∨ S' + 3 ≤ g
theorem ApartQ.of_cell {q S' : Nat} {W W' : World} {v : Value} (h : ApartQ q S' W) (hv : W.cell? ⟨q, 0, none⟩ = some v) (hv' : W'.cell? ⟨q, 0, none⟩ = some v) : ApartQ q S' W' := fun u g hu hg => h u g (hv.trans (hv'.symm.trans hu)) hg
/-- what put leaves -/
theorem PassMem.put {v v' : Value} {w1 : World} (h : PassMem w b ta n tcap o q wr) (k : Nat) (hown : ownsQ wr (w.heap.size + 1 + 1 + 1 + 1 + 1) 3 v (ints (q.map Int.ofNat)))
    (hown' : ownsQ w' (w.heap.size + 1 + 1 + 1 + 1 + 1) 3 v' (ints (q.map Int.ofNat) ++ [.int .i64 k])) (hg : wr.grownBy w1 v.ownBlock) (hw' : w' = w1.setCell ⟨w.heap.size + 1 + 1 + 1 + 1, 0, none⟩ v')
    (hc : w'.cell? ⟨w.heap.size + 1 + 1 + 1 + 1, 0, none⟩ = some v') (hf : w'.frozen? ⟨w.heap.size + 1 + 1 + 1 + 1, 0, none⟩ = false) : PassMem w b ta n tcap o (q ++ [k]) w' := by
  have hs := h.size
  refine ⟨?_, ?_, fun j hj => ?_, fun j hj => ?_, ⟨v', hc, hf, ?_⟩, ?_⟩
  · rw [hw', setCell_far _ _ (by omega)]; exact grown_cell hown hg h.c0 (by first | (simp; done) | (simp; omega) | omega)
  · rw [hw', setCell_far _ _ (by omega)]; exact grown_cell hown hg h.c1 (by first | (simp; done) | (simp; omega) | omega)
  · obtain ⟨u, h1, h2⟩ := h.z j hj
    exact ⟨u, by rw [hw', setCell_far _ _ (by omega)]; exact grown_cell hown hg h1 (by first | (simp; done) | (simp; omega) | omega), by rw [hw', World.frozen?_setCell]; exact grown_frozen hown hg h1 (by first | (simp; done) | (simp; omega) | omega) h2⟩
  · obtain ⟨h1, h2⟩ := h.o j hj
    exact ⟨by rw [hw', setCell_far _ _ (by omega)]; exact grown_cell hown hg h1 (by first | (simp; done) | (simp; omega) | omega), by rw [hw', World.frozen?_setCell]; exact grown_frozen hown hg h1 (by first | (simp; done) | (simp; omega) | omega) h2⟩
  · simpa [ints] using hown'
  · rw [hw']
    exact (h.bl.grown hg (by omega) (fun r e => by have := (hown.lt _ e).1; omega)).setCell (p := ⟨w.heap.size + 1 + 1 + 1 + 1, 0, none⟩) (by first | (simp; done) | (simp; omega) | omega) _
/-- what take leaves -/
theorem PassMem.take {v' : Value} {c : Nat} (h : PassMem w b ta n tcap o (c :: q) wr) (hown' : ownsQ w' (w.heap.size + 1 + 1 + 1 + 1 + 1) 3 v' (ints (q.map Int.ofNat)))
    (hw' : w' = wr.setCell ⟨w.heap.size + 1 + 1 + 1 + 1, 0, none⟩ v') (hc : w'.cell? ⟨w.heap.size + 1 + 1 + 1 + 1, 0, none⟩ = some v') (hf : w'.frozen? ⟨w.heap.size + 1 + 1 + 1 + 1, 0, none⟩ = false) : PassMem w b ta n tcap o q w' := by
  refine ⟨?_, ?_, fun j hj => ?_, fun j hj => ?_, ⟨v', hc, hf, hown'⟩, ?_⟩
  · rw [hw', setCell_far _ _ (by omega)]; exact h.c0
  · rw [hw', setCell_far _ _ (by omega)]; exact h.c1
  · obtain ⟨u, h1, h2⟩ := h.z j hj
    exact ⟨u, by rw [hw', setCell_far _ _ (by omega)]; exact h1, by rw [hw', World.frozen?_setCell]; exact h2⟩
  · obtain ⟨h1, h2⟩ := h.o j hj
    exact ⟨by rw [hw', setCell_far _ _ (by omega)]; exact h1, by rw [hw', World.frozen?_setCell]; exact h2⟩
  · rw [hw']; exact h.bl.setCell (p := ⟨w.heap.size + 1 + 1 + 1 + 1, 0, none⟩) (by first | (simp; done) | (simp; omega) | omega) _
theorem PassMem.start (w : World) (b : Nat) (ta : Option Addr) (n tcap : Nat) : PassMem w b ta n tcap (fun _ => 0) [] (((((w.alloc (.cells #[.pointer (some ⟨b, 0, none⟩)] 55)).alloc (.cells #[.slice ta n tcap] 25)).alloc (.cells Try.zeroCells127 127)).alloc (.cells Try.zeroCells127 127)).alloc (.cells #[.slice none 0 0] 145)) := by
  have hz : Try.zeroCells127.size = 100 := by rw [zeroLevel]; rfl
  have hzk : ∀ k (h : k < Try.zeroCells127.size), Try.zeroCells127[k] = .int .i64 0 := fun k h => List.eq_of_mem_replicate (n := 100) ((congrArg (fun l => Try.zeroCells127[k] ∈ l) (congrArg Array.toList zeroLevel : Try.zeroCells127.toList = List.replicate 100 (Value.int .i64 0))).mp (Array.getElem_mem_toList h))
  have hn : ∀ (w : World) (j : Nat) (v : Value), w.heap.size = j → ∀ t, (w.alloc (.cells #[v] t)).cell? ⟨j, 0, none⟩ = some v := by rintro w _ v rfl t; exact cell_new w #[v] t 0 (by simp)
  have hz1 : ∀ (w : World) (j k : Nat), w.heap.size = j → k < 100 → (w.alloc (.cells Try.zeroCells127 127)).cell? ⟨j, k, none⟩ = some (.int .i64 0) ∧ (w.alloc (.cells Try.zeroCells127 127)).frozen? ⟨j, k, none⟩ = false := by
    rintro w _ k rfl hk
    exact ⟨by rw [cell_new w _ 127 k (by omega), hzk], frozen_new w _ 127 k (by omega)⟩
  refine ⟨?_, ?_, fun k hk => ?_, fun k hk => ?_, ⟨.slice none 0 0, ?_, ?_, .inl ⟨rfl, rfl⟩⟩, ?_⟩
  · exact cell_al _ (cell_al _ (cell_al _ (cell_al _ (hn _ _ _ rfl _))))
  · exact cell_al _ (cell_al _ (cell_al _ (hn _ _ _ (by simp) _)))
  · obtain ⟨h1, h2⟩ := hz1 ((w.alloc (.cells #[.pointer (some ⟨b, 0, none⟩)] 55)).alloc (.cells #[.slice ta n tcap] 25)) (w.heap.size + 1 + 1) k (by simp) hk
    exact ⟨_, cell_al _ (cell_al _ h1), frozen_on ((Below.refl _ _).alloc (Nat.le_refl _) _) (cell_al _ h1) (frozen_on ((Below.refl _ _).alloc (Nat.le_refl _) _) h1 h2)⟩
  · obtain ⟨h1, h2⟩ := hz1 (((w.alloc (.cells #[.pointer (some ⟨b, 0, none⟩)] 55)).alloc (.cells #[.slice ta n tcap] 25)).alloc (.cells Try.zeroCells127 127)) (w.heap.size + 1 + 1 + 1) k (by simp) hk
    exact ⟨cell_al _ h1, frozen_on ((Below.refl _ _).alloc (Nat.le_refl _) _) h1 h2⟩
  · exact hn _ _ _ (by simp) _
  · have := frozen_new ((((w.alloc (.cells #[.pointer (some ⟨b, 0, none⟩)] 55)).alloc (.cells #[.slice ta n tcap] 25)).alloc (.cells Try.zeroCells127 127)).alloc (.cells Try.zeroCells127 127)) #[.slice none 0 0] 145 0 (by simp)
    simpa using this
  · exact (((((Below.refl _ w).alloc (Nat.le_refl _) _).alloc (by simp) _).alloc (by first | (simp; done) | (simp; omega) | omega) _).alloc (by first | (simp; done) | (simp; omega) | omega) _).alloc (by first | (simp; done) | (simp; omega) | omega) _
/-- a level as cells -/
def lev (o : Nat → Int) : List Value := (List.range 100).map fun c => .int .i64 (o c)
theorem lev_length (o : Nat → Int) : (lev o).length = 100 := by simp [lev]
theorem PassMem.range {w : World} {b : Nat} {ta : Option Addr} {n tcap : Nat} {o : Nat → Int} {q : List Nat} {wr : World} (h : PassMem w b ta n tcap o q wr) : wr.rangeAt (w.heap.size + 1 + 1 + 1) 0 (lev o) := by
  intro j v hj
  have hlt : j < 100 := by have := (List.getElem?_eq_some_iff.1 hj).1; rw [lev_length] at this; exact this
  have : v = .int .i64 (o j) := by simpa [lev, hlt] using hj.symm
  rw [this, Nat.zero_add]; exact (h.o j hlt).1
theorem PassMem.there {w : World} {b : Nat} {ta : Option Addr} {n tcap : Nat} {o : Nat → Int} {q : List Nat} {wr : World} (h : PassMem w b ta n tcap o q wr) : wr.there (w.heap.size + 1 + 1) 0 (lev o).toArray.size := by
  intro j hj
  obtain ⟨v, h1, h2⟩ := h.z j (by simpa [lev] using hj)
  rw [Nat.zero_add]; exact ⟨by rw [h1]; rfl, h2⟩
theorem results_mid {P : Program} {fn : Func} {p : Tmp} {ty : TypeId} (h : fn.results = #[.cell p ty]) (tmps : Array Value) (w : World) (b o : Nat) (cs : List Value) (d : TypeDesc)
    (hp : tmps.getD p undef = .pointer (some ⟨b, o, none⟩)) (hc : w.rangeAt b o cs) (hu : P.underlying ty = some d) (hd : d.isRow = true) (hi : (P.info? ty).map (·.size) = some cs.length) :
    (results fn tmps).run P w = .ok (.agg cs.toArray) w := by
  have hp' : tmps[p]?.getD undef = .pointer (some ⟨b, o, none⟩) := by simpa using hp
  simp [results, h, hp', asAddr, run_loadVar_mid w b o ty cs d hc hu hd hi]
theorem sizeLevel : (Try.prog.info? 127).map (·.size) = some 100 := by kernel_rfl
theorem lev_one (o : Nat → Int) : (lev o).toArray.all (·.oneCell') = true := all_oneCell_toArray (fun v hv => by simp [lev] at hv; obtain ⟨c, _, rfl⟩ := hv; rfl)
theorem keeps_setCells (b o : Nat) (vs : List Value) : ∀ w : World, KeepsOthers w (w.setCells b o vs) := by
  induction vs generalizing o with
  | nil => intro w; exact .refl w
  | cons v vs ih => intro w; exact (KeepsOthers.setCell w ⟨b, o, none⟩ v).trans (ih (o + 1) _)
theorem below_setCells {B b : Nat} {a : World} (hB : B ≤ b) (o : Nat) (vs : List Value) : ∀ w : World, Below B a w → Below B a (w.setCells b o vs) := by
  induction vs generalizing o with
  | nil => intro w h; exact h
  | cons v vs ih => intro w h; exact ih (o + 1) _ (h.setCell (p := ⟨b, o, none⟩) hB v)
/-- the frame of passes while its second loop runs -/
def P2 (w : World) (b : Nat) (ta : Option Addr) (n tcap : Nat) (s : Int) (a : Act) : Prop :=
  a = { tmps := #[.pointer (some ⟨b, 0, none⟩), .slice ta n tcap, .int .i64 s, .pointer (some ⟨w.heap.size, 0, none⟩), .pointer (some ⟨w.heap.size + 1, 0, none⟩), Lim.sl a 5, .pointer (some ⟨w.heap.size + 1 + 1, 0, none⟩), .pointer (some ⟨w.heap.size + 1 + 1 + 1, 0, none⟩), .pointer (some ⟨w.heap.size + 1 + 1 + 1 + 1, 0, none⟩), Lim.sl a 9, Lim.sl a 10, Lim.sl a 11, Lim.sl a 12, Lim.sl a 13, Lim.sl a 14, Lim.sl a 15, Lim.sl a 16, Lim.sl a 17, Lim.sl a 18, Lim.sl a 19, Lim.sl a 20, Lim.sl a 21, Lim.sl a 22, Lim.sl a 23, Lim.sl a 24, Lim.sl a 25, Lim.sl a 26, Lim.sl a 27, Lim.sl a 28, Lim.sl a 29, Lim.sl a 30, Lim.sl a 31, Lim.sl a 32, Lim.sl a 33, Lim.sl a 34, Lim.sl a 35, Lim.sl a 36, Lim.sl a 37, Lim.sl a 38, Lim.sl a 39, Lim.sl a 40, Lim.sl a 41, Lim.sl a 42, Lim.sl a 43, Lim.sl a 44, Lim.sl a 45, Lim.sl a 46, Lim.sl a 47, Lim.sl a 48, Lim.sl a 49, Lim.sl a 50, Lim.sl a 51, Lim.sl a 52, Lim.sl a 53, Lim.sl a 54, Lim.sl a 55, Lim.sl a 56, Lim.sl a 57, Lim.sl a 58, Lim.sl a 59, Lim.sl a 60, Lim.sl a 61, Lim.sl a 62, Lim.sl a 63, Lim.sl a 64, Lim.sl a 65, Lim.sl a 66, Lim.sl a 67, Lim.sl a 68, Lim.sl a 69, Lim.sl a 70, Lim.sl a 71, Lim.sl a 72, Lim.sl a 73, Lim.sl a 74, Lim.sl a 75, Lim.sl a 76, Lim.sl a 77, Lim.sl a 78, Lim.sl a 79, Lim.sl a 80, Lim.sl a 81, Lim.sl a 82, Lim.sl a 83], defers := a.defers }

end Go.Proofs.Ytohjinbgbfggcaa.Rg
/-
  The pass from each cell to a sea: the contract of ridge's method passes.
-/
namespace Go.Proofs.Ytohjinbgbfggcaa.Rg
open Go.RowKit Go.Shelf
open Lim
attribute [local go_sem] Oper.semAt_some

set_option maxRecDepth 100000 in
set_option maxHeartbeats 1000000 in
theorem passes_any {B b : Nat} {g : Gd} {s : Int} {hv : Value} {T : List Int} {w : World} (hg : g.Ok) (hB : B ≤ w.heap.size) (hw : WorkAt B w b g) (hT : T.length = g.ss.length) (ht : ∀ x ∈ T, 0 ≤ x ∧ x ≤ 10000)
    (hr : RS B w hv T.length (ints T)) :
    Calls Try.prog 71 #[.pointer (some ⟨b, 0, none⟩), hv, .int .i64 s] w fun e w' => ∃ o : Nat → Int, e = .returned (.agg (lev o).toArray) ∧
      IsPass g (fun c => T.getD c 0) s o ∧ Below w.heap.size w w' := by
  obtain ⟨ta, tcap, rfl, hta⟩ := hr
  have hn : g.ss.length ≤ 100 := hg.n1
  have HW := Lib.hid hw
  obtain ⟨hlt, hc0, hc1, ⟨sv, hc2, sa, scap, rfl, hsa⟩⟩ := hw
  clear hc0 hc1
  have hbw : b < w.heap.size := by omega
  have HT := Lib.hid (And.intro hT ht)
  rw [hT]
  refine (callsIn_wide (n := 2)).1 (callsIn_of_wp_marks Try.func71 rfl trivial ?_ rfl)
  simp only [Try.ntmps71, List.size_toArray, List.length_cons, List.length_nil, Nat.reduceAdd, Nat.reduceSub, Array.replicate_succ, Array.replicate_zero, List.push_toArray, List.append_toArray, List.nil_append, List.cons_append]
  refine wpIn_wide.2 ?_
  go_wp2
  have M0 := PassMem.start w b ta g.ss.length tcap
  generalize hW : World.alloc _ _ = W0
  rw [hW] at M0
  clear hW
  go_loopw [15] (fun i wr => ∃ k : Nat, k ≤ g.ss.length ∧ i = .int .i64 k ∧ PassMem w b ta g.ss.length tcap (pass0 g (fun c => T.getD c 0) s k) (queue0 g s k) wr) (fun i _ => g.ss.length - (intOf i).toNat)
  case atStart => exact ⟨0, Nat.zero_le _, rfl, M0⟩
  case round =>
    clear M0
    obtain ⟨k, hk, rfl, M⟩ := hrel
    by_cases hlt : k < g.ss.length
    · obtain ⟨sb, soff, rfl, hsb, hsc⟩ := hsa (ints_ne (by omega))
      obtain ⟨tb, toff, rfl, htb, htc⟩ := hta (ints_ne (by omega))
      obtain ⟨z, hz⟩ : ∃ z, z = g.ss.getD k 0 := ⟨_, rfl⟩
      obtain ⟨x, hx⟩ : ∃ x, x = T.getD k 0 := ⟨_, rfl⟩
      have q0 : wr.cell? ⟨sb, soff + k, none⟩ = some (.int .i64 z) := by rw [hz]; exact cell_below M.bl (hsc k _ (ints_at' _ _ hlt)) (by simp; omega)
      have q1 : w.cell? ⟨tb, toff + k, none⟩ = some (.int .i64 x) := by rw [hx]; exact htc k _ (ints_at' _ _ (by omega))
      have q2 : wr.cell? ⟨b, 2, none⟩ = some (.slice (some ⟨sb, soff, none⟩) g.ss.length scap) := cell_below M.bl hc2 hbw
      have HX := Lib.hid (And.intro hz hx)
      have HQ := Lib.hid q1
      clear hz hx hsc htc q1 hT
      have m0 := M.c0
      have m1 := M.c1
      obtain ⟨m2, m3⟩ := M.o k (by omega)
      have M1 := M.store (k := k) (by omega) 10001
      have hsz := M1.size
      by_cases hz0 : z = 0
      · subst hz0
        go_wp2_with fail
        refine (at_any hg hlt (by omega) (HW.out.below (M1.bl.mono hB))).mono ?_
        rintro e w2 ⟨rfl, hb2⟩
        have M2 := M1.below hb2
        have HS : Hid (startB g s k = atB g k s) := Lib.hid (by rw [startB, ← HX.out.1]; simp)
        clear hb2 M1 M m0 m1 m2 m3 q0 q2 hsz
        have m0 := M2.c0
        have m1 := M2.c1
        obtain ⟨m2, m3⟩ := M2.o k (by omega)
        have q1 : w2.cell? ⟨tb, toff + k, none⟩ = some (.int .i64 x) := cell_below M2.bl HQ.out (by simp; omega)
        have M3 := M2.store (k := k) (by omega) x
        cases ha : atB g k s with
        | true =>
          go_wp2_with fail
          obtain ⟨v, hv, hf, hown⟩ := M3.q
          refine (put_any hv hf hown (by omega) (by have := M3.size; omega) (by have := queue0_length g s k; simp [ints]; omega)).mono ?_
          rintro e w3 ⟨rfl, v', w1, hown', hgr, hw', hc, hf', -⟩
          have M4 := M3.put k hown hown' hgr hw' hc hf'
          clear hown hown' hgr hw' hc hf' M3 M2 m0 m1 m2 m3 q1 hv hf
          go_wp2
          go_roundw
          case rel =>
            refine ⟨k + 1, by omega, by go_num, ?_⟩
            rw [pass0_succ, queue0_succ, HS.out, ha, if_pos rfl, if_pos rfl, ← HX.out.2]
            rw [upd_upd] at M4
            exact M4
          case measure => simp [intOf]; omega
        | false =>
          go_wp2
          go_roundw
          case rel =>
            refine ⟨k + 1, by omega, by go_num, ?_⟩
            rw [pass0_succ, queue0_succ, HS.out, ha]
            simpa using M2
          case measure => simp [intOf]; omega
      · have hz1 : (z == 0) = false := by simpa using hz0
        have HS : Hid (startB g s k = false) := Lib.hid (by rw [startB, ← HX.out.1]; simp [hz0])
        go_wp2
        go_roundw
        case rel =>
          refine ⟨k + 1, by omega, by go_num, ?_⟩
          rw [pass0_succ, queue0_succ, HS.out]
          simpa using M1
        case measure => simp [intOf]; omega
    · obtain rfl : k = g.ss.length := by omega
      go_wp2
      have HI := Lib.hid (PInv.start (g := g) (t := fun c => T.getD c 0) (s := s) (fun c hc => HT.out.2 _ (by rw [List.getD_eq_getElem?_getD, List.getElem?_eq_getElem (by rw [HT.out.1]; exact hc)]; exact List.getElem_mem _)))
      refine wp_loop_ghost_k (fun m a W => ∃ o q, P2 w b ta g.ss.length tcap s a ∧ Marks w.heap.size a.defers W ∧ PassMem w b ta g.ss.length tcap o q W ∧ Hid (PInv g (fun c => T.getD c 0) s o q ∧ meas g.ss.length o q = m ∧ m ≤ 3000000)) _ ⟨_, _, rfl, Marks.nil _ _, M, Lib.hid ⟨HI.out, rfl, ?bound⟩⟩ ?_
      case bound =>
        have h1 := sumTo_le (pass0 g (fun c => T.getD c 0) s g.ss.length) 10001 g.ss.length (fun k hk => (HI.out.top k hk).2)
        have h2 := queue0_length g s g.ss.length
        have h3 : g.ss.length * 10001 ≤ 100 * 10001 := Nat.mul_le_mul_right _ hn
        simp only [meas, Gd.n]; omega
      clear M HI
      rintro m a W ⟨o, q, hfr, hm, M, hI⟩ J K hJ hK
      unfold P2 at hfr
      generalize a.defers = ds at hfr hm
      generalize Lim.sl a = x at hfr
      subst hfr
      have m0 := M.c0
      have m1 := M.c1
      obtain ⟨v, hv, hf, hown⟩ := M.q
      cases q with
      | nil =>
        obtain ⟨ta', cap', rfl⟩ := hown.len
        have hv : W.cell? ⟨w.heap.size + 1 + 1 + 1 + 1, 0, none⟩ = some (.slice ta' 0 cap') := hv
        clear hown
        have hz0 : decide (0 < (ints []).length) = false := rfl
        have hrng := M.range
        have hthr := M.there
        go_wp2_with (first
          | (refine wpList_load_mid rfl 127 _ rfl (w.heap.size + 1 + 1 + 1) 0 rfl (lev o) _ hrng Try.underlying127 rfl sizeLevel ?_)
          | (refine wpList_store_mid rfl 127 _ _ rfl (w.heap.size + 1 + 1) 0 _ rfl rfl hthr (by simpa [lev] using sizeLevel) (lev_one o) ?_))
        have hB9 : Below w.heap.size w (W.setCells (w.heap.size + 1 + 1) 0 (lev o)) := below_setCells (by omega) _ _ _ M.bl
        have hr9 : (W.setCells (w.heap.size + 1 + 1) 0 (lev o)).rangeAt (w.heap.size + 1 + 1) 0 (lev o) := World.rangeAt_setCells_same _ _ _ _ (by simpa using hthr)
        refine leaves_marks (B := w.heap.size) _ (hm.keep (keeps_setCells _ _ _ _)) (fun w' hs => ⟨_, results_mid rfl _ _ (w.heap.size + 1 + 1) 0 (lev o) _ rfl (fun j v hj => hs.cell (hr9 j v hj)) Try.underlying127 rfl sizeLevel, o, rfl, hI.out.1.done hg, hB9.steady hs (Nat.le_refl _) hB9.size⟩)
      | cons c q =>
        have hv : W.cell? ⟨w.heap.size + 1 + 1 + 1 + 1, 0, none⟩ = some v := hv
        obtain ⟨ta', cap', hvv⟩ := hown.len
        obtain ⟨L, hL⟩ : ∃ L, L = (ints ((c :: q).map Int.ofNat)).length := ⟨_, rfl⟩
        rw [← hL] at hvv
        subst hvv
        have hz0 : 0 < L := by rw [hL]; simp [ints]
        clear hL
        have hmq : 2 * sumTo o g.ss.length + (q.length + 1) = m := by simpa [meas] using hI.out.2.1
        have hql : (ints (q.map Int.ofNat)).length ≤ 4000000 := by have := hI.out.2.2; simp [ints]; omega
        have HMQ := Lib.hid hmq
        clear hmq
        have hcn : c < g.ss.length := (hI.out.1.wait c (by simp)).1.1
        go_wp2_with fail
        refine (take_any hv hf hown (by omega) hql).mono ?_
        rintro e w2 ⟨rfl, v', hown', hw', hc', hf'⟩
        have M2 := M.take hown' hw' hc' hf'
        have hm2 : Marks w.heap.size ds w2 := hm.keep (by rw [hw']; exact KeepsOthers.setCell _ _ _)
        clear hown' hw' hc' hf' hv hf hown hm m0 m1
        have m0 := M2.c0
        have hsz2 : w.heap.size < w2.heap.size := by have := M2.size; omega
        go_wp2_with (go_at_call 92; refine (neighbours_any _ _ _ ⟨_, rfl⟩ ⟨_, rfl⟩).mono ?_; rintro e w' ⟨rfl, rfl⟩)
        generalize hW : World.alloc _ _ = W3
        have hB3 : Below w2.heap.size w2 W3 := by rw [← hW]; exact (((Below.refl _ w2).alloc (Nat.le_refl _) _).alloc (by simp) _).alloc (by simp; omega) _
        have hsz3 : w2.heap.size + 3 = W3.heap.size := by rw [← hW]; simp
        have f3 : W3.cell? ⟨w2.heap.size, 0, none⟩ = some (.int .i64 c) := by rw [← hW]; simp [go_sem]
        have f4 : W3.cell? ⟨w2.heap.size + 1, 0, none⟩ = some (.pointer (some ⟨b, 0, none⟩)) := by rw [← hW]; simp [go_sem]
        have f5 : W3.cell? ⟨w2.heap.size + 1 + 1, 0, none⟩ = some (.int .i64 c) := by rw [← hW]; simp [go_sem]
        clear hW
        have M3 := M2.below hB3
        have hq3 : ApartQ (w.heap.size + 1 + 1 + 1 + 1) w2.heap.size W3 := by
          obtain ⟨v, hv, _, ho⟩ := M2.q
          exact fun u g hu hg => .inl (ho.lt g (by rw [cell_on hB3 hv] at hu; cases hu; exact hg)).2
        have hm3 := MarksLt.of_marks (hm2.keep (keeps_of_below hB3))
        obtain ⟨hb0, ⟨hvv, hb1, ha, hcap, rfl, -⟩⟩ := And.intro HW.out.c0 HW.out.c1
        have hCn : Cn (w2.heap.size + 1) (w2.heap.size + 1 + 1) b g.wd g.hs.length hcap c ha W3 := ⟨f4, f5, cell_below M3.bl hb0 hbw, cell_below M3.bl hb1 hbw⟩
        have hsz4 : w.heap.size + 5 ≤ w2.heap.size := M2.size
        clear f4 f5 hb0 hb1 m0 M M2 hm2 hB3
        refine wp_range (xs := nbrL g.wd g.ss.length c) rfl (enters_of Try.func98 (by kernel_rfl) rfl) (Cn (w2.heap.size + 1) (w2.heap.size + 1 + 1) b g.wd g.hs.length hcap c ha)
          (by rw [← hg.hn]; exact nbr_iter hg.w0 hg.w1 (by have := hg.hn; omega) (by omega) hCn)
          (fun pre W => ∃ o' q', Hid (PMid g (fun c => T.getD c 0) s o' q' c pre ∧ meas g.ss.length o' q' < m) ∧ PassMem w b ta g.ss.length tcap o' q' W ∧ MarksLt w.heap.size W3.heap.size ds W ∧ Cn (w2.heap.size + 1) (w2.heap.size + 1 + 1) b g.wd g.hs.length hcap c ha W ∧
            W.cell? ⟨w2.heap.size, 0, none⟩ = some (.int .i64 c) ∧ ApartQ (w.heap.size + 1 + 1 + 1 + 1) w2.heap.size W)
          (fun _ _ _ => False) (fun _ _ h => by obtain ⟨_, _, _, _, _, h, _⟩ := h; exact h) (fun _ _ h hs => h.steady hs) ?sI (fun _ _ _ _ h _ => h) ⟨o, q, Lib.hid ⟨hI.out.1.take, by have := HMQ.out; simp [meas]; omega⟩, M3, hm3, hCn, f3, hq3⟩
          ?a1 ?assign ?body ?done ?stop
        case sI =>
          rintro _ _ _ ⟨o', q', h1, h2, h3, h4, h5, h6⟩ hs
          obtain ⟨v, hv, _⟩ := h2.q
          exact ⟨o', q', h1, h2.steady hs (by omega), h3.steady hs, h4.steady hs, hs.cell h5, h6.of_cell hv (hs.cell hv)⟩
        case assign =>
          intro l x W K hK
          gi_wp2
          exact hK
        case stop => rintro _ _ _ _ _ _ h; exact h.elim
        case done =>
          rintro D W hD ⟨o', q', h1, h2, h3, h4, h5, h6⟩ hk
          go_wp2
          exact .intro _ h1.out.2 (hJ _ _ _ ⟨o', q', rfl, h3.cons (by omega) hD hk, h2, Lib.hid ⟨h1.out.1.done, rfl, by have := h1.out.2; have := hI.out.2.2; omega⟩⟩)
        case body =>
          rintro l pre x W hx ⟨o', q', h1, h2, h3, h4, h5, h6⟩
          obtain ⟨k, rfl, hk⟩ := mem_nbrL hg.w0 hg.dv hcn hx
          obtain ⟨sb, soff, rfl, hsb, hsc⟩ := hsa (ints_ne (by omega))
          obtain ⟨tb, toff, rfl, htb, htc⟩ := hta (ints_ne (by omega))
          obtain ⟨z, hz⟩ : ∃ z, z = g.ss.getD k 0 := ⟨_, rfl⟩
          obtain ⟨y, hy⟩ : ∃ y, y = T.getD k 0 := ⟨_, rfl⟩
          obtain ⟨oc, hoc⟩ : ∃ oc, oc = o' c := ⟨_, rfl⟩
          obtain ⟨ok, hok⟩ : ∃ ok, ok = o' k := ⟨_, rfl⟩
          have q0 : w.cell? ⟨sb, soff + k, none⟩ = some (.int .i64 z) := by rw [hz]; exact hsc k _ (ints_at' _ _ hk)
          have q1 : W.cell? ⟨tb, toff + k, none⟩ = some (.int .i64 y) := by rw [hy]; exact cell_below h2.bl (htc k _ (ints_at' _ _ (by omega))) (by simp; omega)
          have q3 : W.cell? ⟨w.heap.size + 1 + 1 + 1, c, none⟩ = some (.int .i64 oc) := by rw [hoc]; exact (h2.o c (by omega)).1
          have HX := Lib.hid (And.intro hz (And.intro hy (And.intro hoc hok)))
          have HQ := Lib.hid (And.intro q0 hc2)
          have HN : Hid (nb g c k) := Lib.hid hx
          have q4 := h2.c1
          have hc1 : (c : Int) < 100 := by omega
          have hk1 : (k : Int) < 100 := by omega
          clear hz hy hoc hok hsc htc hx q0 hc2 f3 hCn M3 hm3
          refine wpIn_block ?_
          refine wpIn_seq_k (fun K1 hK1 => ?_)
          have hC : (fun W => W.cell? ⟨w2.heap.size, 0, none⟩ = some (.int .i64 c) ∧ W.cell? ⟨w.heap.size + 1 + 1 + 1, c, none⟩ = some (.int .i64 oc) ∧ W.cell? ⟨w.heap.size + 1, 0, none⟩ = some (.slice (some ⟨tb, toff, none⟩) g.ss.length tcap) ∧ W.cell? ⟨tb, toff + k, none⟩ = some (.int .i64 y)) W.drew := ⟨h5, q3, q4, q1⟩
          refine Lim.regC (fun W => W.cell? ⟨w2.heap.size, 0, none⟩ = some (.int .i64 c) ∧ W.cell? ⟨w.heap.size + 1 + 1 + 1, c, none⟩ = some (.int .i64 oc) ∧ W.cell? ⟨w.heap.size + 1, 0, none⟩ = some (.slice (some ⟨tb, toff, none⟩) g.ss.length tcap) ∧ W.cell? ⟨tb, toff + k, none⟩ = some (.int .i64 y)) [] #[false, false, false, false, false, false, false, false, false, false] (by kernel_rfl) rfl ?_
          refine Lim.stepR 0 (fun _ => trivial) rfl (by kernel_rfl) (fun _ _ _ _ h => h) hC rfl ?_; apply Exists.intro; refine ⟨?_, ?_⟩
          · rintro w ⟨r1, r2, r3, r4⟩; go_simp; try with_reducible rfl
          simp only [Act.put, List.setIfInBounds_toArray, List.set_cons_succ, List.set_cons_zero]
          refine Lim.stepR 1 (fun _ => trivial) rfl (by kernel_rfl) (fun _ _ _ _ h => h) hC rfl ?_; apply Exists.intro; refine ⟨?_, ?_⟩
          · rintro w ⟨r1, r2, r3, r4⟩; go_simp; try with_reducible rfl
          simp only [Act.put, List.setIfInBounds_toArray, List.set_cons_succ, List.set_cons_zero]
          refine Lim.stepR 2 (fun _ => trivial) rfl (by kernel_rfl) (fun _ _ _ _ h => h) hC rfl ?_; apply Exists.intro; refine ⟨?_, ?_⟩
          · rintro w ⟨r1, r2, r3, r4⟩; go_simp; try with_reducible rfl
          simp only [Act.put, List.setIfInBounds_toArray, List.set_cons_succ, List.set_cons_zero]
          refine Lim.stepR 3 (fun _ => trivial) rfl (by kernel_rfl) (fun _ _ _ _ h => h) hC rfl ?_; apply Exists.intro; refine ⟨?_, ?_⟩
          · rintro w ⟨r1, r2, r3, r4⟩; go_simp; try with_reducible rfl
          simp only [Act.put, List.setIfInBounds_toArray, List.set_cons_succ, List.set_cons_zero]
          refine Lim.stepR 4 (fun _ => trivial) rfl (by kernel_rfl) (fun _ _ _ _ h => h) hC rfl ?_; apply Exists.intro; refine ⟨?_, ?_⟩
          · rintro w ⟨r1, r2, r3, r4⟩; go_simp; try with_reducible rfl
          simp only [Act.put, List.setIfInBounds_toArray, List.set_cons_succ, List.set_cons_zero]
          refine Lim.stepR 5 (fun _ => trivial) rfl (by kernel_rfl) (fun _ _ _ _ h => h) hC rfl ?_; apply Exists.intro; refine ⟨?_, ?_⟩
          · rintro w ⟨r1, r2, r3, r4⟩; go_simp; try with_reducible rfl
          simp only [Act.put, List.setIfInBounds_toArray, List.set_cons_succ, List.set_cons_zero]
          refine Lim.stepR 6 (fun _ => trivial) rfl (by kernel_rfl) (fun _ _ _ _ h => h) hC rfl ?_; apply Exists.intro; refine ⟨?_, ?_⟩
          · rintro w ⟨r1, r2, r3, r4⟩; go_simp; try with_reducible rfl
          simp only [Act.put, List.setIfInBounds_toArray, List.set_cons_succ, List.set_cons_zero]
          refine Lim.stepE 7 (fun _ => trivial) rfl (by kernel_rfl) rfl (fun K hK => ?_)
          go_simp
          refine hK _ _ ?_ ?_
          · obtain ⟨r1, r2, r3, r4⟩ := hC
            exact ⟨cell_al _ r1, cell_al _ r2, cell_al _ r3, cell_al _ r4⟩
          simp only [Act.put, List.setIfInBounds_toArray, List.set_cons_succ, List.set_cons_zero]
          have hC2 : (fun W => W.cell? ⟨w2.heap.size, 0, none⟩ = some (.int .i64 c) ∧ W.cell? ⟨w.heap.size + 1 + 1 + 1, c, none⟩ = some (.int .i64 oc) ∧ W.cell? ⟨w.heap.size + 1, 0, none⟩ = some (.slice (some ⟨tb, toff, none⟩) g.ss.length tcap) ∧ W.cell? ⟨tb, toff + k, none⟩ = some (.int .i64 y)) (W.drew.alloc (.cells #[.int .i64 y] 3)) := ⟨cell_al _ hC.1, cell_al _ hC.2.1, cell_al _ hC.2.2.1, cell_al _ hC.2.2.2⟩
          refine Lim.stepE 8 (fun _ => trivial) rfl (by kernel_rfl) rfl (fun K hK => ?_)
          go_simp
          refine ⟨rfl, ((callsIn_wide.2 (greatest_any oc _ 1 (W.heap.size + 1) [y] _ (by simp) ⟨_, _, rfl, fun _ => ⟨_, _, rfl, by simp, ?_⟩⟩)).inRound l).mono ?_⟩
          · intro j u hj
            obtain rfl : j = 0 := by
              rcases Nat.eq_zero_or_pos j with h | h
              · exact h
              · rw [List.getElem?_eq_none (by simp [ints]; omega)] at hj; cases hj
            obtain rfl : Value.int .i64 y = u := by simpa [ints] using hj
            exact cell_new W.drew #[.int .i64 y] _ 0 (by simp)
          rintro e W2 ⟨rfl, rfl⟩
          refine hK _ _ hC2 ?_
          simp only [Act.put, List.setIfInBounds_toArray, List.set_cons_succ, List.set_cons_zero]
          refine Lim.stepR 9 (fun _ => trivial) rfl (by kernel_rfl) (fun _ _ _ _ h => h) hC2 rfl ?_; apply Exists.intro; refine ⟨?_, ?_⟩
          · rintro w ⟨r1, r2, r3, r4⟩; go_simp; try with_reducible rfl
          simp only [Act.put, List.setIfInBounds_toArray, List.set_cons_succ, List.set_cons_zero]
          refine Lim.stepD (by kernel_rfl) ?_
          refine hK1 _ _ ?_
          clear hC hC2 q1 q3 q4 hK1
          have B0 : Below W.heap.size W (W.alloc (.cells #[.int .i64 y] 3)).drew := ((Below.refl _ W).alloc (Nat.le_refl _) _).drew
          have K0 : KeepsOthers W (W.alloc (.cells #[.int .i64 y] 3)).drew := keeps_of_below B0
          have M4 := h2.below B0
          have C4 := h4.below B0
          have L4 := h3.keeps K0
          have c4 := cell_on B0 h5
          have hs4 : w2.heap.size + 2 < W.heap.size := World.block_lt_of_cell? _ _ h4.2.1
          have hs5 := B0.size
          have A4 : ApartQ (w.heap.size + 1 + 1 + 1 + 1) w2.heap.size (W.alloc (.cells #[.int .i64 y] 3)).drew := by obtain ⟨v, hv, _⟩ := h2.q; exact h6.of_cell hv (cell_on B0 hv)
          generalize (W.alloc (.cells #[.int .i64 y] 3)).drew = W2 at B0 K0 M4 C4 L4 c4 A4 hs5 ⊢
          obtain ⟨nn, hnn⟩ : ∃ nn, maxL [y] oc = nn := ⟨_, rfl⟩
          have HNN : Hid (nn = max (o' c) (T.getD k 0)) := Lib.hid (by rw [← hnn, HX.out.2.2.1, HX.out.2.1]; rfl)
          rw [hnn]
          clear hnn B0
          have q0 : W2.cell? ⟨sb, soff + k, none⟩ = some (.int .i64 z) := cell_below M4.bl HQ.out.1 (by simp; omega)
          have q1 : W2.cell? ⟨b, 2, none⟩ = some (.slice (some ⟨sb, soff, none⟩) g.ss.length scap) := cell_below M4.bl HQ.out.2 hbw
          have m0 := M4.c0
          obtain ⟨m2, m3⟩ := M4.o k (by omega)
          rw [← HX.out.2.2.2] at m2
          by_cases hz0 : z = 0
          · by_cases hlt : nn < ok
            · have hd : decide (nn < ok) = true := by simpa using hlt
              have M5 := M4.store (k := k) (by omega) nn
              gi_wp2_with fail
              obtain ⟨v, hv, hf, hown⟩ := M5.q
              refine ⟨trivial, rfl, ?_⟩
              refine ((callsIn_wide.2 (put_any hv hf hown (by omega) (by have := M5.size; omega) (by have := h1.out.2; have := hI.out.2.2; simp [ints, meas] at *; omega))).inRound l).mono ?_
              rintro e W4 ⟨rfl, v', w1, hown', hgr, hw', hc', hf', hnew⟩
              have hne : ∀ g, v.ownBlock = some g → g < w2.heap.size ∨ w2.heap.size + 3 ≤ g := fun g hg => A4 v g (by rw [setCell_far _ _ (by omega)] at hv; exact hv) hg
              have M6 := M5.put k hown hown' hgr hw' hc' hf'
              have K6 : KeepsOthers W W4 := (K0.trans (KeepsOthers.setCell _ _ _)).trans (by rw [hw']; exact (keeps_of_owns hown hgr).trans (KeepsOthers.setCell _ _ _))
              have hl6 : land g k := ⟨hk, by rw [← HX.out.1]; exact hz0⟩
              have HR := h1.out.1.relax hg HN.out hl6 (HT.out.2 _ (by rw [List.getD_eq_getElem?_getD, List.getElem?_eq_getElem (by omega)]; exact List.getElem_mem _)).1 (by show max (o' c) (T.getD k 0) < o' k; rw [← HNN.out, ← HX.out.2.2.2]; exact hlt)
              have hms := sumTo_less o' k nn (by have := HNN.out; have := (h1.out.1.top c hcn).1; omega) (by rw [← HX.out.2.2.2]; exact hlt) g.ss.length hk
              have e6 : max (o' c) ((fun c => T.getD c 0) k) = nn := HNN.out.symm
              rw [e6] at HR
              have HC := Lib.hid (And.intro hw' hc')
              clear hw' hc' hf'
              gi_wp2
              refine ⟨K6.from _, upd o' k nn, q' ++ [k], Lib.hid ⟨HR, by have := h1.out.2; simp only [meas, List.length_append, List.length_singleton] at *; omega⟩, M6, h3.keeps K6, ⟨?_, ?_, ?_, ?_⟩, ?_, ?_⟩
              · exact put_cell HC.out.1 hgr (by rw [setCell_far _ _ (by omega)]; exact C4.1) (fun g hg => by have := hne g hg; omega) (by omega)
              · exact put_cell HC.out.1 hgr (by rw [setCell_far _ _ (by omega)]; exact C4.2.1) (fun g hg => by have := hne g hg; omega) (by omega)
              · exact put_cell HC.out.1 hgr (by rw [setCell_far _ _ (by omega)]; exact C4.2.2.1) (fun g hg => by have := (hown.lt g hg).1; omega) (by omega)
              · exact put_cell HC.out.1 hgr (by rw [setCell_far _ _ (by omega)]; exact C4.2.2.2) (fun g hg => by have := (hown.lt g hg).1; omega) (by omega)
              · exact put_cell HC.out.1 hgr (by rw [setCell_far _ _ (by omega)]; exact c4) (fun g hg => by have := hne g hg; omega) (by omega)
              · intro u g hu hg
                rw [HC.out.2] at hu
                cases hu
                rcases hnew g hg with h | h
                · exact hne g h
                · simp [World.setCell] at h; omega
            · have hd : decide (nn < ok) = false := by simpa using hlt
              gi_wp2
              refine ⟨K0.from _, o', q', Lib.hid ⟨h1.out.1.skip (fun _ => ?_), h1.out.2⟩, M4, L4, C4, c4, A4⟩
              have := HNN.out; have := HX.out.2.2.2; show o' k ≤ max (o' c) (T.getD k 0); omega
          · have hz1 : (z == 0) = false := by simpa using hz0
            gi_wp2
            refine ⟨K0.from _, o', q', Lib.hid ⟨h1.out.1.skip (fun hl => absurd ?_ hz0), h1.out.2⟩, M4, L4, C4, c4, A4⟩
            rw [HX.out.1]; exact hl.2
end Go.Proofs.Ytohjinbgbfggcaa.Rg
/-
  What package slices does with lists of numbers and of spans: Index, Contains, IndexFunc, ContainsFunc.
-/
namespace Go.Proofs.Ytohjinbgbfggcaa.Rg
open Go.RowKit Go.Shelf
open Lim

set_option maxHeartbeats 400000 in
theorem index_any {B : Nat} {v : Value} {xs : List Int} (x : Int) {w : World} (hn : xs.length ≤ 100000) (hv : RS B w v xs.length (ints xs)) :
    Calls Try.prog 91 #[v, .int .i64 x] w fun e w' => (∃ r : Int, e = .returned (.int .i64 r) ∧ (0 ≤ r ↔ x ∈ xs)) ∧ w = w' := by
  obtain ⟨a, cap, rfl, hc⟩ := hv
  go_enter Try.func91, Try.ntmps91
  go_wp2
  go_loop [8] (fun i => ∃ k : Nat, k ≤ xs.length ∧ i = .int .i64 k ∧ Hid (¬ x ∈ xs.take k)) (fun i => xs.length - (intOf i).toNat)
  case atStart => exact ⟨0, Nat.zero_le _, rfl, Lib.hid (by simp)⟩
  case round =>
    obtain ⟨k, hk, rfl, hno⟩ := hrel
    by_cases hlt : k < xs.length
    · obtain ⟨b, off, rfl, hb, hcell⟩ := hc (ints_ne (by omega))
      obtain ⟨y, hy⟩ : ∃ y, y = xs.getD k 0 := ⟨_, rfl⟩
      have hck : w.cell? ⟨b, off + k, none⟩ = some (.int .i64 y) := by rw [hy]; exact hcell k _ (ints_at' xs k hlt)
      have HY : Hid (y = xs[k]) := Lib.hid (by rw [hy, List.getD_eq_getElem?_getD, List.getElem?_eq_getElem hlt]; rfl)
      clear hc hcell hy
      by_cases hxy : x = y
      · subst hxy
        go_wp2
        go_ret
        exact ⟨⟨k, rfl, ⟨fun _ => by rw [HY.out]; exact List.getElem_mem _, fun _ => Int.natCast_nonneg _⟩⟩, rfl⟩
      · have hd : (x == y) = false := by simpa using hxy
        go_wp2
        go_round
        case rel =>
          refine ⟨k + 1, by omega, by go_num, Lib.hid ?_⟩
          rw [List.take_succ_eq_append_getElem hlt, List.mem_append, not_or]
          exact ⟨hno.out, by rw [← HY.out]; simpa using hxy⟩
        case measure => simp [intOf]; omega
    · obtain rfl : k = xs.length := by omega
      go_wp2
      go_ret
      exact ⟨⟨-1, rfl, ⟨fun h => by omega, fun h => absurd (by simpa using h) hno.out⟩⟩, rfl⟩

set_option maxHeartbeats 400000 in
theorem contains_any {B : Nat} {v : Value} {xs : List Int} (x : Int) {w : World} (hn : xs.length ≤ 100000) (hv : RS B w v xs.length (ints xs)) :
    Calls Try.prog 69 #[v, .int .i64 x] w fun e w' => e = .returned (.bool (decide (x ∈ xs))) ∧ w = w' := by
  have HV := Lib.hid hv
  obtain ⟨a, cap, rfl, hc⟩ := hv
  clear hc
  go_enter Try.func69, Try.ntmps69
  go_wp2_with fail
  refine (index_any x hn HV.out).mono ?_
  rintro e w' ⟨⟨r, rfl, hr⟩, rfl⟩
  have HR := Lib.hid hr
  clear hr
  go_wp2
  go_ret
  have e : decide (0 ≤ r) = decide (x ∈ xs) := decide_eq_decide.2 HR.out
  exact ⟨by rw [← e]; rfl, rfl⟩

/-- what is asked of the elements, by their places: the function given answers p -/
def Says (f : Nat) (lb : Array Value) (n : Nat) (el : Nat → Value) (p : Nat → Bool) (w : World) : Prop :=
  ∀ k, k < n → ∀ W, Below w.heap.size w W → Calls Try.prog f (#[el k] ++ lb) W fun e W' => e = .returned (.bool (p k)) ∧ Below W.heap.size W W'

set_option maxRecDepth 20000 in
set_option maxHeartbeats 400000 in
theorem indexFunc_ints {B f : Nat} {lb : Array Value} {p : Nat → Bool} {v : Value} {xs : List Int} {w : World} (eg : ∀ args w, (callFunc f args).run Try.prog w = .ok (.enter f args) w) (hn : xs.length ≤ 100000) (hv : RS B w v xs.length (ints xs)) (hB : B ≤ w.heap.size)
    (hf : Says f lb xs.length (fun k => .int .i64 (xs.getD k 0)) p w) :
    Calls Try.prog 89 #[v, .func (.func f) #[] lb] w fun e w' => (∃ r : Int, e = .returned (.int .i64 r) ∧ (0 ≤ r ↔ ∃ k, k < xs.length ∧ p k = true)) ∧ Below w.heap.size w w' := by
  obtain ⟨a, cap, rfl, hc⟩ := hv
  have HF := Lib.hid hf
  clear hf
  go_enter Try.func89, Try.ntmps89
  go_wp2
  go_loopw [8] (fun i wr => ∃ k : Nat, k ≤ xs.length ∧ i = .int .i64 k ∧ Hid (∀ j, j < k → p j = false) ∧ Below w.heap.size w wr) (fun i _ => xs.length - (intOf i).toNat)
  case atStart => exact ⟨0, Nat.zero_le _, rfl, Lib.hid (by intro j hj; omega), Below.refl _ _⟩
  case round =>
    obtain ⟨k, hk, rfl, hno, hbr⟩ := hrel
    by_cases hlt : k < xs.length
    · obtain ⟨b, off, rfl, hb, hcell⟩ := hc (ints_ne (by omega))
      have H := Lib.hid (HF.out k hlt wr hbr)
      obtain ⟨y, hy⟩ : ∃ y, y = xs.getD k 0 := ⟨_, rfl⟩
      simp only [← hy] at H
      have hck : wr.cell? ⟨b, off + k, none⟩ = some (.int .i64 y) := by rw [hy]; exact cell_below hbr (hcell k _ (ints_at' xs k hlt)) (by simp; omega)
      clear hc hcell hy
      go_wp2_with fail
      refine H.out.mono ?_
      rintro e w2 ⟨rfl, hb2⟩
      have hb3 : Below w.heap.size w w2 := hbr.trans (hb2.mono hbr.size)
      cases hp : p k with
      | true =>
        go_wp2
        go_ret
        exact ⟨⟨k, rfl, ⟨fun _ => ⟨k, hlt, hp⟩, fun _ => Int.natCast_nonneg _⟩⟩, hb3⟩
      | false =>
        go_wp2
        go_roundw
        case rel =>
          refine ⟨k + 1, by omega, by go_num, Lib.hid (fun j hj => ?_), hb3⟩
          by_cases e : j = k
          · rw [e]; exact hp
          · exact hno.out j (by omega)
        case measure => simp [intOf]; omega
    · obtain rfl : k = xs.length := by omega
      go_wp2
      go_ret
      exact ⟨⟨-1, rfl, ⟨fun h => by omega, fun ⟨k, hk, hp⟩ => by rw [hno.out k hk] at hp; cases hp⟩⟩, hbr⟩
set_option maxHeartbeats 400000 in
theorem containsFunc_ints {B f : Nat} {lb : Array Value} {p : Nat → Bool} {v : Value} {xs : List Int} {w : World} (eg : ∀ args w, (callFunc f args).run Try.prog w = .ok (.enter f args) w) (hn : xs.length ≤ 100000) (hv : RS B w v xs.length (ints xs)) (hB : B ≤ w.heap.size)
    (hf : Says f lb xs.length (fun k => .int .i64 (xs.getD k 0)) p w) :
    Calls Try.prog 65 #[v, .func (.func f) #[] lb] w fun e w' => e = .returned (.bool ((List.range xs.length).any p)) ∧ Below w.heap.size w w' := by
  have HV := Lib.hid (And.intro hv hf)
  obtain ⟨a, cap, rfl, hc⟩ := hv
  clear hc hf
  go_enter Try.func65, Try.ntmps65
  go_wp2_with fail
  refine (indexFunc_ints eg hn HV.out.1 hB HV.out.2).mono ?_
  rintro e w' ⟨⟨r, rfl, hr⟩, hb⟩
  have HR := Lib.hid hr
  clear hr
  go_wp2
  go_ret
  have e : decide (0 ≤ r) = (List.range xs.length).any p := by
    rw [Bool.eq_iff_iff, decide_eq_true_iff, HR.out, List.any_eq_true]
    exact ⟨fun ⟨k, h1, h2⟩ => ⟨k, List.mem_range.2 h1, h2⟩, fun ⟨k, h1, h2⟩ => ⟨k, List.mem_range.1 h1, h2⟩⟩
  exact ⟨by rw [← e]; rfl, hb⟩

set_option maxRecDepth 20000 in
set_option maxHeartbeats 400000 in
theorem indexFunc_spans {B f : Nat} {lb : Array Value} {p : Nat → Bool} {v : Value} {xs : List (Int × Int)} {w : World} (eg : ∀ args w, (callFunc f args).run Try.prog w = .ok (.enter f args) w) (hn : xs.length ≤ 100000) (hv : RS B w v xs.length (spans xs)) (hB : B ≤ w.heap.size)
    (hf : Says f lb xs.length (fun k => .agg #[.int .i64 (xs.getD k (0, 0)).1, .int .i64 (xs.getD k (0, 0)).2]) p w) :
    Calls Try.prog 90 #[v, .func (.func f) #[] lb] w fun e w' => (∃ r : Int, e = .returned (.int .i64 r) ∧ (0 ≤ r ↔ ∃ k, k < xs.length ∧ p k = true)) ∧ Below w.heap.size w w' := by
  obtain ⟨a, cap, rfl, hc⟩ := hv
  have HF := Lib.hid hf
  clear hf
  go_enter Try.func90, Try.ntmps90
  go_wp2
  go_loopw [8] (fun i wr => ∃ k : Nat, k ≤ xs.length ∧ i = .int .i64 k ∧ Hid (∀ j, j < k → p j = false) ∧ Below w.heap.size w wr) (fun i _ => xs.length - (intOf i).toNat)
  case atStart => exact ⟨0, Nat.zero_le _, rfl, Lib.hid (by intro j hj; omega), Below.refl _ _⟩
  case round =>
    obtain ⟨k, hk, rfl, hno, hbr⟩ := hrel
    by_cases hlt : k < xs.length
    · obtain ⟨b, off, rfl, hb, hcell⟩ := hc (spans_ne (by omega))
      have H := Lib.hid (HF.out k hlt wr hbr)
      obtain ⟨y, hy⟩ : ∃ y, y = (xs.getD k (0, 0)).1 := ⟨_, rfl⟩
      obtain ⟨u, hu⟩ : ∃ u, u = (xs.getD k (0, 0)).2 := ⟨_, rfl⟩
      simp only [← hy, ← hu] at H
      have hck : wr.cell? ⟨b, off + k * 2, none⟩ = some (.int .i64 y) := by rw [hy, List.getD_eq_getElem?_getD, List.getElem?_eq_getElem hlt]; exact cell_below hbr (hcell _ _ (spans_lo _ k hlt)) (by simp; omega)
      have hck2 : wr.cell? ⟨b, off + k * 2 + 1, none⟩ = some (.int .i64 u) := by rw [hu, List.getD_eq_getElem?_getD, List.getElem?_eq_getElem hlt]; exact cell_below hbr (hcell _ _ (spans_hi _ k hlt)) (by simp; omega)
      clear hc hcell hy hu
      go_wp2_with fail
      refine H.out.mono ?_
      rintro e w2 ⟨rfl, hb2⟩
      have hb3 : Below w.heap.size w w2 := hbr.trans (hb2.mono hbr.size)
      cases hp : p k with
      | true =>
        go_wp2
        go_ret
        exact ⟨⟨k, rfl, ⟨fun _ => ⟨k, hlt, hp⟩, fun _ => Int.natCast_nonneg _⟩⟩, hb3⟩
      | false =>
        go_wp2
        go_roundw
        case rel =>
          refine ⟨k + 1, by omega, by go_num, Lib.hid (fun j hj => ?_), hb3⟩
          by_cases e : j = k
          · rw [e]; exact hp
          · exact hno.out j (by omega)
        case measure => simp [intOf]; omega
    · obtain rfl : k = xs.length := by omega
      go_wp2
      go_ret
      exact ⟨⟨-1, rfl, ⟨fun h => by omega, fun ⟨k, hk, hp⟩ => by rw [hno.out k hk] at hp; cases hp⟩⟩, hbr⟩
set_option maxHeartbeats 400000 in
theorem containsFunc_spans {B f : Nat} {lb : Array Value} {p : Nat → Bool} {v : Value} {xs : List (Int × Int)} {w : World} (eg : ∀ args w, (callFunc f args).run Try.prog w = .ok (.enter f args) w) (hn : xs.length ≤ 100000) (hv : RS B w v xs.length (spans xs)) (hB : B ≤ w.heap.size)
    (hf : Says f lb xs.length (fun k => .agg #[.int .i64 (xs.getD k (0, 0)).1, .int .i64 (xs.getD k (0, 0)).2]) p w) :
    Calls Try.prog 67 #[v, .func (.func f) #[] lb] w fun e w' => e = .returned (.bool ((List.range xs.length).any p)) ∧ Below w.heap.size w w' := by
  have HV := Lib.hid (And.intro hv hf)
  obtain ⟨a, cap, rfl, hc⟩ := hv
  clear hc hf
  go_enter Try.func67, Try.ntmps67
  go_wp2_with fail
  refine (indexFunc_spans eg hn HV.out.1 hB HV.out.2).mono ?_
  rintro e w' ⟨⟨r, rfl, hr⟩, hb⟩
  have HR := Lib.hid hr
  clear hr
  go_wp2
  go_ret
  have e : decide (0 ≤ r) = (List.range xs.length).any p := by
    rw [Bool.eq_iff_iff, decide_eq_true_iff, HR.out, List.any_eq_true]
    exact ⟨fun ⟨k, h1, h2⟩ => ⟨k, List.mem_range.2 h1, h2⟩, fun ⟨k, h1, h2⟩ => ⟨k, List.mem_range.1 h1, h2⟩⟩
  exact ⟨by rw [← e]; rfl, hb⟩

end Go.Proofs.Ytohjinbgbfggcaa.Rg
/-
  A ground is opened: the contract of ridge's function opened: its error, and the ground at work.
-/
namespace Go.Proofs.Ytohjinbgbfggcaa.Rg
open Go.RowKit Go.Shelf
open Lim

/-- whether a sea is not a sea's number -/
def badSea (ss : List Int) : Bool := (List.range ss.length).any fun k => !inB (ss.getD k 0) 0 2
/-- whether a span is none -/
def badSpan (hs : List (Int × Int)) : Bool := (List.range hs.length).any fun k => !inB (hs.getD k (0, 0)).1 0 (hs.getD k (0, 0)).2 || decide (10000 < (hs.getD k (0, 0)).2)
/-- how many cells, columns and seas there are is right -/
def goodCount (wd : Int) (hs : List (Int × Int)) (ss : List Int) : Bool := decide (1 ≤ hs.length) && decide (hs.length ≤ 100) && decide (1 ≤ wd) && decide (hs.length % wd.toNat = 0) && decide (ss.length = hs.length)
/-- whether the two seas meet -/
def clash (g : Gd) : Bool := (List.range g.ss.length).any fun c => decide (g.ss.getD c 0 = 1) && atB g c 2
/-- the error of a ground -/
def openErr (wd : Int) (hs : List (Int × Int)) (ss : List Int) : Int :=
  if goodCount wd hs ss = false then 3 else if (badSea ss || badSpan hs) = true then 4 else if ¬ (1 : Int) ∈ ss ∨ ¬ (2 : Int) ∈ ss then 7 else if clash ⟨wd.toNat, hs, ss⟩ = true then 8 else 0

/-- the marks of a ground at work -/
def MetAt (w : World) (b : Nat) (M : Nat → Bool) : Prop := ∀ k, k < 100 → w.cell? ⟨b, 3 + k, none⟩ = some (.bool (M k)) ∧ w.frozen? ⟨b, 3 + k, none⟩ = false
theorem MetAt.below {w w' : World} {b : Nat} {M : Nat → Bool} (h : MetAt w b M) (hb : Below w.heap.size w w') : MetAt w' b M := fun k hk => ⟨cell_on hb (h k hk).1, frozen_on hb (h k hk).1 (h k hk).2⟩
/-- a ground at work whose lists lie below B -/
structure WorkIn (B : Nat) (w : World) (b : Nat) (g : Gd) : Prop where
  c0 : w.cell? ⟨b, 0, none⟩ = some (.int .i64 g.wd)
  c1 : ∃ hv, w.cell? ⟨b, 1, none⟩ = some hv ∧ RS B w hv g.hs.length (spans g.hs)
  c2 : ∃ sv, w.cell? ⟨b, 2, none⟩ = some sv ∧ RS B w sv g.ss.length (ints g.ss)
theorem WorkIn.lt {B : Nat} {w : World} {b : Nat} {g : Gd} (h : WorkIn B w b g) : b < w.heap.size := World.block_lt_of_cell? _ _ h.c0
theorem WorkIn.at {B B' : Nat} {w : World} {b : Nat} {g : Gd} (h : WorkIn B w b g) (hb : b < B') (hB : B ≤ B') : WorkAt B' w b g :=
  ⟨hb, h.c0, let ⟨v, h1, h2⟩ := h.c1; ⟨v, h1, h2.mono hB⟩, let ⟨v, h1, h2⟩ := h.c2; ⟨v, h1, h2.mono hB⟩⟩
theorem WorkIn.below {B : Nat} {w w' : World} {b : Nat} {g : Gd} (h : WorkIn B w b g) (hb : Below w.heap.size w w') (hB : B ≤ w.heap.size) : WorkIn B w' b g :=
  ⟨cell_on hb h.c0, let ⟨v, h1, h2⟩ := h.c1; ⟨v, cell_on hb h1, h2.below (hb.mono hB)⟩, let ⟨v, h1, h2⟩ := h.c2; ⟨v, cell_on hb h1, h2.below (hb.mono hB)⟩⟩
theorem WorkIn.setCell {B : Nat} {w : World} {b : Nat} {g : Gd} (h : WorkIn B w b g) {p j : Nat} (v : Value) (hp : p ≠ b) (hB : B ≤ p) : WorkIn B (w.setCell ⟨p, j, none⟩ v) b g := by
  have hb : Below B w (w.setCell ⟨p, j, none⟩ v) := (Below.refl _ w).setCell (p := ⟨p, j, none⟩) hB v
  exact ⟨(setCell_far _ _ hp).trans h.c0, let ⟨v, h1, h2⟩ := h.c1; ⟨v, (setCell_far _ _ hp).trans h1, h2.below hb⟩, let ⟨v, h1, h2⟩ := h.c2; ⟨v, (setCell_far _ _ hp).trans h1, h2.below hb⟩⟩
theorem MetAt.setCell {w : World} {b : Nat} {M : Nat → Bool} (h : MetAt w b M) {p j : Nat} (v : Value) (hp : p ≠ b) : MetAt (w.setCell ⟨p, j, none⟩ v) b M :=
  fun k hk => ⟨(setCell_far _ _ hp).trans (h k hk).1, by rw [World.frozen?_setCell]; exact (h k hk).2⟩
/-- what opened leaves -/
def Opened (B : Nat) (wd : Int) (hs : List (Int × Int)) (ss : List Int) (w : World) (e : Ending) (w' : World) : Prop :=
  Below w.heap.size w w' ∧ ((openErr wd hs ss = 0 ∧ ∃ b, e = .returned (.tuple #[.pointer (some ⟨b, 0, none⟩), .int .i64 0]) ∧ w.heap.size ≤ b ∧ WorkIn B w' b ⟨wd.toNat, hs, ss⟩ ∧ MetAt w' b (fun _ => false)) ∨
    (openErr wd hs ss ≠ 0 ∧ e = .returned (.tuple #[.pointer none, .int .i64 (openErr wd hs ss)])))
theorem Opened.bad {B : Nat} {wd : Int} {hs : List (Int × Int)} {ss : List Int} {w w' : World} {er : Int} (h : openErr wd hs ss = er) (hne : er ≠ 0) (hb : Below w.heap.size w w') : Opened B wd hs ss w (.returned (.tuple #[.pointer none, .int .i64 er])) w' :=
  ⟨hb, .inr ⟨by rw [h]; exact hne, by rw [h]⟩⟩
theorem goodCount_ok {m : Nat} {hs : List (Int × Int)} {ss : List Int} (h : goodCount m hs ss = true) : Gd.Ok ⟨m, hs, ss⟩ := by
  simp only [goodCount, Bool.and_eq_true, decide_eq_true_eq, Int.toNat_natCast] at h
  obtain ⟨⟨⟨⟨h1, h2⟩, h3⟩, h4⟩, h5⟩ := h
  have hle := Nat.le_of_dvd (by omega) (Nat.dvd_of_mod_eq_zero h4)
  exact ⟨by show 0 < m; omega, by show m ≤ 100; omega, by show ss.length ≤ 100; omega, h5.symm, by show ss.length % m = 0; rw [h5]; exact h4⟩
theorem zeroWork : Try.zeroCells124 = (.int .i64 0 :: .slice none 0 0 :: .slice none 0 0 :: List.replicate 100 (Value.bool false)).toArray := by kernel_rfl
theorem work_new {B m : Nat} {hv sv : Value} {hs : List (Int × Int)} {ss : List Int} {w : World} (hB : B ≤ w.heap.size) (hh : RS B w hv hs.length (spans hs)) (hss : RS B w sv ss.length (ints ss)) :
    WorkIn B (w.alloc (.cells (((Try.zeroCells124.setIfInBounds 0 (.int .i64 m)).setIfInBounds 1 hv).setIfInBounds 2 sv) 124)) w.heap.size ⟨m, hs, ss⟩ ∧
    MetAt (w.alloc (.cells (((Try.zeroCells124.setIfInBounds 0 (.int .i64 m)).setIfInBounds 1 hv).setIfInBounds 2 sv) 124)) w.heap.size (fun _ => false) := by
  have hz : ((Try.zeroCells124.setIfInBounds 0 (.int .i64 m)).setIfInBounds 1 hv).setIfInBounds 2 sv = (.int .i64 m :: hv :: sv :: List.replicate 100 (Value.bool false)).toArray := by
    rw [zeroWork]; simp only [List.setIfInBounds_toArray, List.set_cons_zero, List.set_cons_succ]
  rw [hz]
  have hb : Below w.heap.size w (w.alloc (.cells (.int .i64 m :: hv :: sv :: List.replicate 100 (Value.bool false)).toArray 124)) := (Below.refl _ w).alloc (Nat.le_refl _) _
  refine ⟨⟨?_, ⟨hv, ?_, hh.below (hb.mono hB)⟩, ⟨sv, ?_, hss.below (hb.mono hB)⟩⟩, fun k hk => ⟨?_, World.frozen?_alloc_new ..⟩⟩
  · rw [World.cell?_alloc_new]; rfl
  · rw [World.cell?_alloc_new]; rfl
  · rw [World.cell?_alloc_new]; rfl
  · rw [World.cell?_alloc_new, Nat.add_comm]
    rw [List.getElem?_toArray]
    simp only [List.getElem?_cons_succ]
    exact List.getElem?_replicate_of_lt hk
theorem says_opened1 (ss : List Int) (w : World) : Says 66 #[] ss.length (fun k => .int .i64 (ss.getD k 0)) (fun k => !inB (ss.getD k 0) 0 2) w := by
  intro k hk W hb
  simp only [Array.append_empty]
  exact (opened1_any _ W).mono (fun e w' h => ⟨h.1, by rw [← h.2]; exact Below.refl _ _⟩)
theorem says_opened2 (hs : List (Int × Int)) (w : World) : Says 68 #[] hs.length (fun k => .agg #[.int .i64 (hs.getD k (0, 0)).1, .int .i64 (hs.getD k (0, 0)).2]) (fun k => !inB (hs.getD k (0, 0)).1 0 (hs.getD k (0, 0)).2 || decide (10000 < (hs.getD k (0, 0)).2)) w := by
  intro k hk W hb
  simp only [Array.append_empty]
  exact opened2_any _ _ W

set_option maxHeartbeats 400000 in
theorem opened_count {B : Nat} {wd : Int} {hv sv : Value} {hs : List (Int × Int)} {ss : List Int} {w : World} (hg : goodCount wd hs ss = false) (hh : RS B w hv hs.length (spans hs)) (hss : RS B w sv ss.length (ints ss)) :
    Calls Try.prog 39 #[.agg #[.int .i64 wd, hv, sv]] w fun e w' => Opened B wd hs ss w e w' := by
  have he : openErr wd hs ss = 3 := by rw [openErr, if_pos hg]
  have HE := Lib.hid he
  clear he
  obtain ⟨ha, hcap, rfl, -⟩ := hh
  obtain ⟨sa, scap, rfl, -⟩ := hss
  by_cases h1 : 1 ≤ hs.length ∧ hs.length ≤ 100
  · have hb : inB hs.length 1 100 = true := inB_true (by omega) (by omega)
    by_cases h2 : wd < 1
    · have hd : decide (wd < 1) = true := by simpa using h2
      go_enter Try.func39, Try.ntmps39
      go_wp2_with (go_at_call 64; refine (in_any _ _ _ _).mono ?_; rintro e w' ⟨rfl, rfl⟩)
      go_ret2
      exact Opened.bad HE.out (by decide) ((Below.refl _ _).alloc (Nat.le_refl _) _)
    · have hd : decide (wd < 1) = false := by simpa using h2
      obtain ⟨m, rfl⟩ : ∃ m : Nat, wd = m := ⟨wd.toNat, by omega⟩
      have e5 : (hs.length : Int).tmod (m : Int) = ((hs.length % m : Nat) : Int) := (Int.ofNat_tmod _ _).symm
      have hm0 : ¬ m = 0 := by omega
      by_cases h3 : hs.length % m = 0
      · have h4 : ¬ ss.length = hs.length := fun h4 => by simp [goodCount, h1, h3, h4] at hg; omega
        have hne : ((ss.length : Int) == hs.length) = false := by rw [beq_eq_false_iff_ne]; omega
        have e6 : (hs.length : Int).tmod (m : Int) = 0 := by rw [e5, h3]; rfl
        go_enter Try.func39, Try.ntmps39
        go_wp2_with (go_at_call 64; refine (in_any _ _ _ _).mono ?_; rintro e w' ⟨rfl, rfl⟩)
        go_ret2
        exact Opened.bad HE.out (by decide) ((Below.refl _ _).alloc (Nat.le_refl _) _)
      · have e6 : ((hs.length : Int).tmod (m : Int) == 0) = false := by rw [e5, beq_eq_false_iff_ne]; omega
        go_enter Try.func39, Try.ntmps39
        go_wp2_with (go_at_call 64; refine (in_any _ _ _ _).mono ?_; rintro e w' ⟨rfl, rfl⟩)
        go_ret2
        exact Opened.bad HE.out (by decide) ((Below.refl _ _).alloc (Nat.le_refl _) _)
  · have hb : inB hs.length 1 100 = false := inB_false (by omega)
    go_enter Try.func39, Try.ntmps39
    go_wp2_with (go_at_call 64; refine (in_any _ _ _ _).mono ?_; rintro e w' ⟨rfl, rfl⟩)
    go_ret2
    exact Opened.bad HE.out (by decide) ((Below.refl _ _).alloc (Nat.le_refl _) _)

set_option maxRecDepth 20000 in
set_option maxHeartbeats 1000000 in
theorem opened_good {B : Nat} {wd : Int} {hv sv : Value} {hs : List (Int × Int)} {ss : List Int} {w : World} (hg : goodCount wd hs ss = true) (hB : B ≤ w.heap.size) (hh : RS B w hv hs.length (spans hs)) (hss : RS B w sv ss.length (ints ss)) :
    Calls Try.prog 39 #[.agg #[.int .i64 wd, hv, sv]] w fun e w' => Opened B wd hs ss w e w' := by
  have hg' := hg
  simp only [goodCount, Bool.and_eq_true, decide_eq_true_eq] at hg'
  obtain ⟨⟨⟨⟨h1, h2⟩, h3⟩, h4⟩, h5⟩ := hg'
  have hb : inB hs.length 1 100 = true := inB_true (by omega) (by omega)
  have hd : decide (wd < 1) = false := by simp; omega
  obtain ⟨m, rfl⟩ : ∃ m : Nat, wd = m := ⟨wd.toNat, by omega⟩
  simp only [Int.toNat_natCast] at h4
  have e6 : (hs.length : Int).tmod (m : Int) = 0 := ((Int.ofNat_tmod hs.length m).symm).trans (by rw [h4]; rfl)
  have hm0 : ¬ m = 0 := by omega
  have hne : ((ss.length : Int) == hs.length) = true := by rw [beq_iff_eq]; omega
  have HR := Lib.hid (And.intro hh hss)
  obtain ⟨ha, hcap, rfl, hhc⟩ := hh
  obtain ⟨sa, scap, rfl, hsc⟩ := hss
  have HB := Lib.hid (And.intro (Eq.refl (badSea ss)) (Eq.refl (badSpan hs)))
  have HG := Lib.hid hg
  have HA := Lib.hid h5
  clear hhc hsc hg h4 h5
  go_enter Try.func39, Try.ntmps39
  go_wp2_with (go_at_call 64; refine (in_any _ _ _ _).mono ?_; rintro e w' ⟨rfl, rfl⟩)
  have B1 : Below w.heap.size w (w.alloc (.cells #[.int .i64 m, .slice ha hs.length hcap, .slice sa ss.length scap] 34)) := (Below.refl _ w).alloc (Nat.le_refl _) _
  have C1 : Calls Try.prog 65 #[.slice sa ss.length scap, .func (.func 66) #[] #[]] (w.alloc (.cells #[.int .i64 m, .slice ha hs.length hcap, .slice sa ss.length scap] 34)) fun e w' => e = .returned (.bool (badSea ss)) ∧ Below (w.heap.size + 1) (w.alloc (.cells #[.int .i64 m, .slice ha hs.length hcap, .slice sa ss.length scap] 34)) w' :=
    (containsFunc_ints (p := fun k => !inB (ss.getD k 0) 0 2) (enters_of Try.func66 (by kernel_rfl) rfl) (by have := HA.out; omega) (HR.out.2.below (B1.mono hB)) (by simp; omega) (says_opened1 ss _)).mono (fun e w' h => ⟨h.1, by simpa using h.2⟩)
  refine C1.mono ?_
  clear C1
  rintro e w1 ⟨rfl, hb1⟩
  have B2 : Below w.heap.size w w1 := B1.trans (hb1.mono (Nat.le_succ _))
  have c0 : w1.cell? ⟨w.heap.size, 0, none⟩ = some (.int .i64 m) := cell_below hb1 (by simp [go_sem]) (by simp)
  have c1 : w1.cell? ⟨w.heap.size, 1, none⟩ = some (.slice ha hs.length hcap) := cell_below hb1 (by simp [go_sem]) (by simp)
  have c2 : w1.cell? ⟨w.heap.size, 2, none⟩ = some (.slice sa ss.length scap) := cell_below hb1 (by simp [go_sem]) (by simp)
  clear hb1 B1
  cases hs1 : badSea ss with
  | true =>
    go_wp2
    go_ret2
    exact Opened.bad (by rw [openErr, HG.out, hs1]; rfl) (by decide) B2
  | false =>
    have C2 : Calls Try.prog 67 #[.slice ha hs.length hcap, .func (.func 68) #[] #[]] w1 fun e w' => e = .returned (.bool (badSpan hs)) ∧ Below w1.heap.size w1 w' :=
      containsFunc_spans (enters_of Try.func68 (by kernel_rfl) rfl) (by omega) (HR.out.1.below (B2.mono hB)) (by have := B2.size; omega) (says_opened2 hs _)
    have HC2 := Lib.hid C2
    clear C2
    go_wp2_with fail
    refine HC2.out.mono ?_
    rintro e w2 ⟨rfl, hb2⟩
    have B3 : Below w.heap.size w w2 := B2.trans (hb2.mono B2.size)
    replace c0 := cell_on hb2 c0
    replace c1 := cell_on hb2 c1
    replace c2 := cell_on hb2 c2
    clear hb2 B2 HC2
    cases hs2 : badSpan hs with
    | true =>
      go_wp2
      go_ret2
      exact Opened.bad (by rw [openErr, HG.out, hs1, hs2]; rfl) (by decide) B3
    | false =>
      go_wp2
      have B4 : Below w2.heap.size w2 (w2.alloc (.cells (((Try.zeroCells124.setIfInBounds 0 (.int .i64 m)).setIfInBounds 1 (.slice ha hs.length hcap)).setIfInBounds 2 (.slice sa ss.length scap)) 124)) := (Below.refl _ w2).alloc (Nat.le_refl _) _
      have hB2 : B ≤ w2.heap.size := by have := B3.size; omega
      have HW := work_new (m := m) hB2 (HR.out.1.below (B3.mono hB)) (HR.out.2.below (B3.mono hB))
      have hsz : (w2.alloc (.cells (((Try.zeroCells124.setIfInBounds 0 (.int .i64 m)).setIfInBounds 1 (.slice ha hs.length hcap)).setIfInBounds 2 (.slice sa ss.length scap)) 124)).heap.size = w2.heap.size + 1 := by simp
      replace c2 := cell_on B4 c2
      replace B4 := B3.trans (B4.mono B3.size)
      generalize w2.alloc (.cells (((Try.zeroCells124.setIfInBounds 0 (.int .i64 m)).setIfInBounds 1 (.slice ha hs.length hcap)).setIfInBounds 2 (.slice sa ss.length scap)) 124) = w3 at B4 HW hsz c2 ⊢
      have hsz2 := B3.size
      have HW' := HW.1.at (B' := w2.heap.size + 1) (Nat.lt_succ_self _) (by omega)
      clear c0 c1 B3
      go_loop [6] (fun i => ∃ k : Nat, 1 ≤ k ∧ k ≤ 3 ∧ i = .int .i64 k ∧ Hid (∀ j : Nat, 1 ≤ j → j < k → (j : Int) ∈ ss)) (fun i => 3 - (intOf i).toNat)
      case atStart => exact ⟨1, by omega, by omega, rfl, Lib.hid (by intro j h1 h2; omega)⟩
      case round =>
        obtain ⟨k, hk1, hk3, rfl, hin⟩ := hrel
        by_cases hlt : k ≤ 2
        · have hd2 : decide ((k : Int) ≤ 2) = true := decide_eq_true (by omega)
          cases hc : decide ((k : Int) ∈ ss) with
          | false =>
            go_wp2_with (go_at_call 69; refine (contains_any _ (by have := HA.out; omega) (HR.out.2.below (B4.mono hB))).mono ?_; rintro e w' ⟨rfl, rfl⟩)
            go_ret2
            have hk : ¬ (k : Int) ∈ ss := by simpa using hc
            refine Opened.bad ?_ (by decide) B4
            rw [openErr, HG.out, hs1, hs2, if_neg (by decide), if_neg (by decide), if_pos]
            rcases (show k = 1 ∨ k = 2 by omega) with rfl | rfl
            · exact .inl hk
            · exact .inr hk
          | true =>
            go_wp2_with (go_at_call 69; refine (contains_any _ (by have := HA.out; omega) (HR.out.2.below (B4.mono hB))).mono ?_; rintro e w' ⟨rfl, rfl⟩)
            go_round
            case rel =>
              refine ⟨k + 1, by omega, by omega, by go_num, Lib.hid (fun j h1 h2 => ?_)⟩
              by_cases e : j = k
              · rw [e]; simpa using hc
              · exact hin.out j h1 (by omega)
            case measure => simp [intOf]; omega
        · obtain rfl : k = 3 := by omega
          have HO := Lib.hid (goodCount_ok HG.out)
          have hl5 : ss.length ≤ 100 := by have := HA.out; omega
          go_wp2
          go_loopw [57] (fun i wr => ∃ k : Nat, k ≤ ss.length ∧ i = .int .i64 k ∧ Hid (∀ j, j < k → (decide (ss.getD j 0 = 1) && atB ⟨m, hs, ss⟩ j 2) = false) ∧ Below w3.heap.size w3 wr) (fun i _ => ss.length - (intOf i).toNat)
          case atStart => exact ⟨0, Nat.zero_le _, rfl, Lib.hid (by intro j hj; omega), Below.refl _ _⟩
          case round =>
            obtain ⟨k, hk, rfl, hno, hbr⟩ := hrel
            have hsr := hbr.size
            have BR := B4.trans (hbr.mono (by omega))
            by_cases hlt : k < ss.length
            · obtain ⟨sa', scap', hsv, hsc⟩ := HR.out.2
              cases hsv
              obtain ⟨sb, soff, rfl, hsb, hsc⟩ := hsc (ints_ne (by omega))
              obtain ⟨z, hz⟩ : ∃ z, z = ss.getD k 0 := ⟨_, rfl⟩
              have q0 : wr.cell? ⟨sb, soff + k, none⟩ = some (.int .i64 z) := by rw [hz]; exact cell_below BR (hsc k _ (ints_at' _ _ hlt)) (by simp; omega)
              have HZ := Lib.hid hz
              clear hz hsc c2
              by_cases hz1 : z = 1
              · subst hz1
                have CA := Lib.hid (at_any (s := 2) HO.out hlt (by omega) (HW'.below (hbr.mono (by omega))))
                go_wp2_with fail
                refine CA.out.mono ?_
                rintro e w5 ⟨rfl, hb5⟩
                have BR5 := hbr.trans (hb5.mono hsr)
                clear CA hb5 q0
                cases hat : atB ⟨m, hs, ss⟩ k 2 with
                | true =>
                  go_wp2
                  go_ret2
                  refine Opened.bad ?_ (by decide) (B4.trans (BR5.mono (by omega)))
                  rw [openErr, HG.out, hs1, hs2, if_neg (by decide), if_neg (by decide), if_neg, if_pos]
                  · exact List.any_eq_true.2 ⟨k, List.mem_range.2 hlt, by show (decide (ss.getD k 0 = 1) && atB ⟨(m : Int).toNat, hs, ss⟩ k 2) = true; rw [Int.toNat_natCast, hat, ← HZ.out]; rfl⟩
                  · rw [not_or, Decidable.not_not, Decidable.not_not]; exact ⟨hin.out 1 (by omega) (by omega), hin.out 2 (by omega) (by omega)⟩
                | false =>
                  go_wp2
                  go_roundw
                  case rel =>
                    refine ⟨k + 1, by omega, by go_num, Lib.hid (fun j hj => ?_), BR5⟩
                    by_cases e : j = k
                    · rw [e, hat, Bool.and_false]
                    · exact hno.out j (by omega)
                  case measure => simp [intOf]; omega
              · have hz2 : (z == 1) = false := by simpa using hz1
                go_wp2
                go_roundw
                case rel =>
                  refine ⟨k + 1, by omega, by go_num, Lib.hid (fun j hj => ?_), hbr⟩
                  by_cases e : j = k
                  · rw [e, ← HZ.out]; simp [hz1]
                  · exact hno.out j (by omega)
                case measure => simp [intOf]; omega
            · obtain rfl : k = ss.length := by omega
              go_wp2
              go_ret2
              have hc : clash ⟨(m : Int).toNat, hs, ss⟩ = false := List.any_eq_false.2 (fun j hj => by rw [Int.toNat_natCast]; rw [hno.out j (List.mem_range.1 hj)]; decide)
              refine ⟨BR, .inl ⟨?_, _, rfl, hsz2, ?_, ?_⟩⟩
              · rw [openErr, HG.out, hs1, hs2, if_neg (by decide), if_neg (by decide), if_neg, hc, if_neg (by decide)]
                rw [not_or, Decidable.not_not, Decidable.not_not]; exact ⟨hin.out 1 (by omega) (by omega), hin.out 2 (by omega) (by omega)⟩
              · exact HW.1.below hbr (by omega)
              · exact HW.2.below hbr

theorem opened_any {B : Nat} {wd : Int} {hv sv : Value} {hs : List (Int × Int)} {ss : List Int} {w : World} (hB : B ≤ w.heap.size) (hh : RS B w hv hs.length (spans hs)) (hss : RS B w sv ss.length (ints ss)) :
    Calls Try.prog 39 #[.agg #[.int .i64 wd, hv, sv]] w fun e w' => Opened B wd hs ss w e w' := by
  cases hg : goodCount wd hs ss with
  | true => exact opened_good hg hB hh hss
  | false => exact opened_count hg hh hss
end Go.Proofs.Ytohjinbgbfggcaa.Rg
/-
  The saddle's height: the contract of ridge's method saddle.
-/
namespace Go.Proofs.Ytohjinbgbfggcaa.Rg
open Go.RowKit Go.Shelf
open Lim

/-- r is the saddle's height in truth t: the least height of a crossing; 10001 if there is none -/
structure IsSaddle (g : Gd) (t : Nat → Int) (r : Int) : Prop where
  top : r ≤ 10001
  hit : r < 10001 → ∃ c, land g c ∧ atB g c 1 = true ∧ R g t 2 r c
  least : ∀ c h, atB g c 1 = true → R g t 2 h c → r ≤ h
/-- the saddle among the first m cells -/
structure SadTo (g : Gd) (p : Nat → Int) (m : Nat) (r : Int) : Prop where
  top : r ≤ 10001
  hit : r < 10001 → ∃ c, land g c ∧ atB g c 1 = true ∧ p c = r
  least : ∀ c, c < m → land g c → atB g c 1 = true → r ≤ p c
theorem SadTo.skip {g : Gd} {p : Nat → Int} {m : Nat} {r : Int} (h : SadTo g p m r) (hn : ¬ (land g m ∧ atB g m 1 = true)) : SadTo g p (m + 1) r :=
  ⟨h.top, h.hit, fun c hc hl ha => by
    by_cases e : c = m
    · subst e; exact absurd ⟨hl, ha⟩ hn
    · exact h.least c (by omega) hl ha⟩
theorem SadTo.take {g : Gd} {p : Nat → Int} {m : Nat} {r : Int} (h : SadTo g p m r) (hl : land g m) (ha : atB g m 1 = true) : SadTo g p (m + 1) (min r (p m)) := by
  refine ⟨by have := h.top; omega, fun hr => ?_, fun c hc hl' ha' => ?_⟩
  · by_cases e : r ≤ p m
    · rw [Int.min_eq_left e] at hr ⊢; exact h.hit hr
    · rw [Int.min_eq_right (by omega)]; exact ⟨m, hl, ha, rfl⟩
  · by_cases e : c = m
    · subst e; omega
    · have := h.least c (by omega) hl' ha'; omega
theorem SadTo.done {g : Gd} {t p : Nat → Int} {r : Int} (h : SadTo g p g.n r) (hp : IsPass g t 2 p) : IsSaddle g t r := by
  refine ⟨h.top, fun hr => ?_, fun c k ha hR => ?_⟩
  · obtain ⟨c, hl, ha, e⟩ := h.hit hr
    exact ⟨c, hl, ha, by rw [← e]; exact hp.sound c hl.1 (by omega)⟩
  · have hl := (Re.in_A hR).1
    have := h.least c hl.1 hl ha
    have := hp.least c hl.1 k hR
    omega
theorem IsSaddle.unique {g : Gd} {t : Nat → Int} {r q : Int} (h : IsSaddle g t r) (k : IsSaddle g t q) : r = q := by
  have h1 := h.top
  have k1 := k.top
  have a : r ≤ q := by
    rcases Int.lt_or_le q 10001 with hq | hq
    · obtain ⟨c, _, ha, hR⟩ := k.hit hq; exact h.least c q ha hR
    · omega
  have b : q ≤ r := by
    rcases Int.lt_or_le r 10001 with hq | hq
    · obtain ⟨c, _, ha, hR⟩ := h.hit hq; exact k.least c r ha hR
    · omega
  omega

theorem there_new (w : World) (cs : Array Value) (t n : Nat) (hn : n ≤ cs.size) : (w.alloc (.cells cs t)).there w.heap.size 0 n := fun j hj => by
  rw [Nat.zero_add]
  exact ⟨by rw [World.cell?_alloc_new, Array.getElem?_eq_getElem (by omega)]; rfl, World.frozen?_alloc_new ..⟩
theorem zeroLevel_size : Try.zeroCells127.size = 100 := by rw [zeroLevel]; rfl
theorem run_storeLev {P : Program} (w : World) (b : Nat) (o : Nat → Int) (ht : w.there b 0 100) : (storeCells ⟨b, 0, none⟩ (lev o)).run P w = .ok () (w.setCells b 0 (lev o)) := by
  have := run_storeCells_cells (P := P) b 0 (lev o) 0 w (fun j hj => by simpa using (ht j (by simpa [lev] using hj)).1) (fun j hj => by simpa using (ht j (by simpa [lev] using hj)).2)
    (fun v hv => (Array.all_eq_true_iff_forall_mem.1 (lev_one o)) v (by simpa using hv))
  simpa using this
theorem lev_at {w : World} {b : Nat} {o : Nat → Int} (h : w.rangeAt b 0 (lev o)) {k : Nat} (hk : k < 100) : w.cell? ⟨b, k, none⟩ = some (.int .i64 (o k)) := by
  have := h k (.int .i64 (o k)) (by simp [lev, hk])
  rwa [Nat.zero_add] at this

set_option maxRecDepth 20000 in
set_option maxHeartbeats 1000000 in
theorem saddle_any {B b : Nat} {g : Gd} {hv : Value} {T : List Int} {w : World} (hg : g.Ok) (hB : B ≤ w.heap.size) (hw : WorkAt B w b g) (hT : T.length = g.ss.length) (ht : ∀ x ∈ T, 0 ≤ x ∧ x ≤ 10000)
    (hr : RS B w hv T.length (ints T)) :
    Calls Try.prog 40 #[.pointer (some ⟨b, 0, none⟩), hv] w fun e w' => ∃ r : Int, e = .returned (.int .i64 r) ∧ IsSaddle g (fun c => T.getD c 0) r ∧ Below w.heap.size w w' := by
  have HP := Lib.hid (passes_any (s := 2) hg hB hw hT ht hr)
  obtain ⟨ta, tcap, rfl, -⟩ := hr
  have hn : g.ss.length ≤ 100 := hg.n1
  have HW := Lib.hid hw
  obtain ⟨hlt, hc0, hc1, ⟨sv, hc2, sa, scap, rfl, hsa⟩⟩ := hw
  clear hc0 hc1
  have hbw : b < w.heap.size := by omega
  rw [hT] at *
  clear hT
  go_enter Try.func40, Try.ntmps40
  go_wp2_with fail
  refine HP.out.mono ?_
  rintro e w1 ⟨o, rfl, hp, hb1⟩
  have HP2 := Lib.hid hp
  clear hp HP
  have hthr := Lib.hid (there_new w1 Try.zeroCells127 127 100 (by rw [zeroLevel_size]; exact Nat.le_refl _))
  have hb1s := hb1.size
  go_wp2_with fail
  rw [run_storeLev _ _ _ hthr.out]
  simp only [Result.andThen_ok, Oper.upon]
  have hr1 : ((w1.alloc (.cells Try.zeroCells127 127)).setCells w1.heap.size 0 (lev o)).rangeAt w1.heap.size 0 (lev o) := World.rangeAt_setCells_same _ _ _ _ (by rw [lev_length]; exact hthr.out)
  have hb2 : Below w.heap.size w ((w1.alloc (.cells Try.zeroCells127 127)).setCells w1.heap.size 0 (lev o)) := below_setCells hb1s _ _ _ (hb1.alloc hb1s _)
  generalize (w1.alloc (.cells Try.zeroCells127 127)).setCells w1.heap.size 0 (lev o) = w2 at hr1 hb2 ⊢
  clear hthr
  go_wp2
  go_loopw [6, 13] (fun v i wr => ∃ k : Nat, k ≤ g.ss.length ∧ i = .int .i64 k ∧ ∃ r : Int, v = .int .i64 r ∧ Hid (SadTo g o k r) ∧ Below w2.heap.size w2 wr) (fun _ i _ => g.ss.length - (intOf i).toNat)
  case atStart => exact ⟨0, Nat.zero_le _, rfl, 10001, rfl, Lib.hid ⟨by decide, fun h => by omega, fun c hc => by omega⟩, Below.refl _ _⟩
  case round =>
    obtain ⟨k, hk, rfl, r, rfl, hs, hbr⟩ := hrel
    have hsr := hbr.size
    have BR := hb2.trans (hbr.mono hb2.size)
    by_cases hlt : k < g.ss.length
    · obtain ⟨sb, soff, rfl, hsb, hsc⟩ := hsa (ints_ne (by omega))
      obtain ⟨z, hz⟩ : ∃ z, z = g.ss.getD k 0 := ⟨_, rfl⟩
      obtain ⟨y, hy⟩ : ∃ y, y = o k := ⟨_, rfl⟩
      have q0 : wr.cell? ⟨sb, soff + k, none⟩ = some (.int .i64 z) := by rw [hz]; exact cell_below BR (hsc k _ (ints_at' _ _ hlt)) (by simp; omega)
      have q2 : wr.cell? ⟨b, 2, none⟩ = some (.slice (some ⟨sb, soff, none⟩) g.ss.length scap) := cell_below BR hc2 hbw
      have q3 : wr.cell? ⟨w1.heap.size, k, none⟩ = some (.int .i64 y) := by rw [hy]; exact cell_on hbr (lev_at hr1 (by omega))
      have HZ := Lib.hid (And.intro hz hy)
      have hk1 : (k : Int) < 100 := by omega
      clear hz hy hsc hc2
      by_cases hz0 : z = 0
      · subst hz0
        have hl : land g k := ⟨hlt, HZ.out.1.symm⟩
        have HL := Lib.hid hl
        clear hl
        have CA := Lib.hid (at_any (s := 1) hg hlt (by have := BR.size; omega) (HW.out.below (BR.mono hB)))
        go_wp2_with fail
        refine CA.out.mono ?_
        rintro e w5 ⟨rfl, hb5⟩
        have BR5 := hbr.trans (hb5.mono hsr)
        replace q3 := cell_on hb5 q3
        clear CA hb5 q0 q2
        cases hat : atB g k 1 with
        | true =>
          go_wp2
          go_roundw
          case rel =>
            refine ⟨k + 1, by omega, by go_num, _, rfl, Lib.hid ?_, BR5⟩
            have h := hs.out.take HL.out hat
            rw [← HZ.out.2] at h
            have e : (if y < r then y else r) = min r y := by rw [Int.min_def]; split <;> split <;> omega
            rw [e]; exact h
          case measure => simp [intOf]; omega
        | false =>
          go_wp2
          go_roundw
          case rel => exact ⟨k + 1, by omega, by go_num, r, rfl, Lib.hid (hs.out.skip (fun h => by rw [hat] at h; exact absurd h.2 (by decide))), BR5⟩
          case measure => simp [intOf]; omega
      · have hz2 : (z == 0) = false := by simpa using hz0
        go_wp2
        go_roundw
        case rel => exact ⟨k + 1, by omega, by go_num, r, rfl, Lib.hid (hs.out.skip (fun h => hz0 (by rw [HZ.out.1]; exact h.1.2))), hbr⟩
        case measure => simp [intOf]; omega
    · obtain rfl : k = g.ss.length := by omega
      go_wp2
      go_ret
      exact ⟨r, rfl, hs.out.done HP2.out, BR⟩
end Go.Proofs.Ytohjinbgbfggcaa.Rg
/-
  The heights of the saddle: the contracts of ridge's functions Check, crossed and Saddle.
-/
namespace Go.Proofs.Ytohjinbgbfggcaa.Rg
open Go.RowKit Go.Shelf
open Lim

/-- the lowest, and the highest, heights of a ground -/
def lowT (g : Gd) : Nat → Int := fun c => (g.hs.map (·.1)).getD c 0
def highT (g : Gd) : Nat → Int := fun c => (g.hs.map (·.2)).getD c 0

theorem goodSpan {hs : List (Int × Int)} (h : badSpan hs = false) {c : Nat} (hc : c < hs.length) : 0 ≤ (hs.getD c (0, 0)).1 ∧ (hs.getD c (0, 0)).1 ≤ (hs.getD c (0, 0)).2 ∧ (hs.getD c (0, 0)).2 ≤ 10000 := by
  have := List.any_eq_false.1 h c (List.mem_range.2 hc)
  simp only [Bool.or_eq_true, Bool.not_eq_true', decide_eq_true_eq, not_or, Bool.not_eq_false] at this
  have h1 := inB_iff.1 this.1
  omega
theorem openErr_zero {wd : Int} {hs : List (Int × Int)} {ss : List Int} (h : openErr wd hs ss = 0) : goodCount wd hs ss = true ∧ badSea ss = false ∧ badSpan hs = false ∧ (1 : Int) ∈ ss ∧ (2 : Int) ∈ ss ∧ clash ⟨wd.toNat, hs, ss⟩ = false := by
  unfold openErr at h
  split at h
  · cases h
  · rename_i h1
    split at h
    · cases h
    · rename_i h2
      split at h
      · cases h
      · rename_i h3
        split at h
        · cases h
        · rename_i h4
          simp only [Bool.or_eq_true, not_or, Bool.not_eq_true, Decidable.not_not] at h1 h2 h3 h4
          exact ⟨by simpa using h1, h2.1, h2.2, h3.1, h3.2, h4⟩
theorem openErr_ok {wd : Int} {hs : List (Int × Int)} {ss : List Int} (h : openErr wd hs ss = 0) : Gd.Ok ⟨wd.toNat, hs, ss⟩ := by
  have h1 := (openErr_zero h).1
  have hw : 1 ≤ wd := by simp only [goodCount, Bool.and_eq_true, decide_eq_true_eq] at h1; exact h1.1.1.2
  have e : ((wd.toNat : Nat) : Int) = wd := by omega
  exact goodCount_ok (m := wd.toNat) (by rw [e]; exact h1)
theorem low_range {hs : List (Int × Int)} (h : badSpan hs = false) : ∀ x ∈ hs.map (·.1), 0 ≤ x ∧ x ≤ 10000 := by
  intro x hx
  obtain ⟨s, hs', rfl⟩ := List.mem_map.1 hx
  obtain ⟨c, hc, rfl⟩ := List.mem_iff_getElem.1 hs'
  have := goodSpan h hc
  rw [List.getD_eq_getElem?_getD, List.getElem?_eq_getElem hc] at this
  simp only [Option.getD_some] at this
  omega
theorem high_range {hs : List (Int × Int)} (h : badSpan hs = false) : ∀ x ∈ hs.map (·.2), 0 ≤ x ∧ x ≤ 10000 := by
  intro x hx
  obtain ⟨s, hs', rfl⟩ := List.mem_map.1 hx
  obtain ⟨c, hc, rfl⟩ := List.mem_iff_getElem.1 hs'
  have := goodSpan h hc
  rw [List.getD_eq_getElem?_getD, List.getElem?_eq_getElem hc] at this
  simp only [Option.getD_some] at this
  omega
/-- saddle over the heights at one end, as both exported functions call it -/
theorem RS.of_owns' {w : World} {base e size : Nat} {v : Value} {xs : List Int} {n : Nat} (h : w.ownsRow base e size v n (ints xs)) (hn : n = (xs).length) : RS w.heap.size w v xs.length (ints xs) := by
  subst hn; exact RS.of_owns h

theorem sizeSpan : (Try.prog.info? 28).map (·.size) = some 2 := by kernel_rfl
theorem load_span {w : World} {b : Nat} {x y : Value} (h0 : w.cell? ⟨b, 0, none⟩ = some x) (h1 : w.cell? ⟨b, 1, none⟩ = some y) : (loadVar 28 ⟨b, 0, none⟩).run Try.prog w = .ok (.agg #[x, y]) w :=
  run_loadVar_mid w b 0 28 [x, y] _ (fun j v hj => by
    match j with
    | 0 => simp at hj; subst hj; exact h0
    | 1 => simp at hj; subst hj; exact h1
    | j + 2 => simp at hj) Try.underlying28 rfl sizeSpan
theorem results_tct {P : Program} {fn : Func} {t p u : Tmp} {ty : TypeId} (h : fn.results = #[.tmp t, .cell p ty, .tmp u]) (tmps : Array Value) (w : World) (b : Nat) (v : Value)
    (hp : tmps.getD p undef = .pointer (some ⟨b, 0, none⟩)) (hl : (loadVar ty ⟨b, 0, none⟩).run P w = .ok v w) : (results fn tmps).run P w = .ok (.tuple #[tmps.getD t undef, v, tmps.getD u undef]) w := by
  have hp' : tmps[p]?.getD undef = .pointer (some ⟨b, 0, none⟩) := by simpa using hp
  simp [results, h, hp', asAddr, hl]
theorem span_set {w : World} {b : Nat} (x y : Value) {x' y' : Value} (h0 : w.cell? ⟨b, 0, none⟩ = some x') (h1 : w.cell? ⟨b, 1, none⟩ = some y') :
    ((w.setCell ⟨b, 0, none⟩ x).setCell ⟨b, 1, none⟩ y).cell? ⟨b, 0, none⟩ = some x ∧ ((w.setCell ⟨b, 0, none⟩ x).setCell ⟨b, 1, none⟩ y).cell? ⟨b, 1, none⟩ = some y := by
  refine ⟨?_, ?_⟩
  · rw [setCell_off _ _ (by decide)]; exact World.cell?_setCell_same' _ _ _ (by rw [h0]; rfl)
  · exact World.cell?_setCell_same' _ _ _ (by rw [setCell_off _ _ (by decide), h1]; rfl)

set_option maxRecDepth 20000 in
set_option maxHeartbeats 1000000 in
theorem crossed_any {B : Nat} {wd : Int} {hv sv : Value} {hs : List (Int × Int)} {ss : List Int} {w : World} (hB : B ≤ w.heap.size) (hh : RS B w hv hs.length (spans hs)) (hss : RS B w sv ss.length (ints ss)) :
    Calls Try.prog 17 #[.agg #[.int .i64 wd, hv, sv]] w fun e w' => Below w.heap.size w w' ∧
      ((openErr wd hs ss ≠ 0 ∧ e = .returned (.tuple #[.pointer none, .agg #[.int .i64 0, .int .i64 0], .int .i64 (openErr wd hs ss)])) ∨
       (openErr wd hs ss = 0 ∧ ∃ a b : Int, IsSaddle ⟨wd.toNat, hs, ss⟩ (lowT ⟨wd.toNat, hs, ss⟩) a ∧ IsSaddle ⟨wd.toNat, hs, ss⟩ (highT ⟨wd.toNat, hs, ss⟩) b ∧
        ((a = 10001 ∧ e = .returned (.tuple #[.pointer none, .agg #[.int .i64 0, .int .i64 0], .int .i64 7])) ∨
         (a ≠ 10001 ∧ ∃ q, e = .returned (.tuple #[.pointer (some ⟨q, 0, none⟩), .agg #[.int .i64 a, .int .i64 b], .int .i64 0]) ∧ w.heap.size ≤ q ∧ WorkIn B w' q ⟨wd.toNat, hs, ss⟩ ∧ MetAt w' q (fun _ => false))))) := by
  have B1 : Below w.heap.size w ((w.alloc (.cells #[.int .i64 wd, hv, sv] 34)).alloc (.cells #[.int .i64 0, .int .i64 0] 28)) := ((Below.refl _ w).alloc (Nat.le_refl _) _).alloc (by simp) _
  have CO := Lib.hid (opened_any (B := B) (wd := wd) (by simp; omega) (hh.below (B1.mono hB)) (hss.below (B1.mono hB)))
  obtain ⟨ha, hcap, rfl, -⟩ := hh
  obtain ⟨sa, scap, rfl, -⟩ := hss
  go_enter Try.func17, Try.ntmps17
  go_wp2_with fail
  have z0 : ((w.alloc (.cells #[.int .i64 wd, .slice ha hs.length hcap, .slice sa ss.length scap] 34)).alloc (.cells #[.int .i64 0, .int .i64 0] 28)).cell? ⟨w.heap.size + 1, 0, none⟩ = some (.int .i64 0) := by simp [go_sem]
  have z1 : ((w.alloc (.cells #[.int .i64 wd, .slice ha hs.length hcap, .slice sa ss.length scap] 34)).alloc (.cells #[.int .i64 0, .int .i64 0] 28)).cell? ⟨w.heap.size + 1, 1, none⟩ = some (.int .i64 0) := by simp [go_sem]
  have y0 : ((w.alloc (.cells #[.int .i64 wd, .slice ha hs.length hcap, .slice sa ss.length scap] 34)).alloc (.cells #[.int .i64 0, .int .i64 0] 28)).frozen? ⟨w.heap.size + 1, 0, none⟩ = false := by simp [go_sem]
  have y1 : ((w.alloc (.cells #[.int .i64 wd, .slice ha hs.length hcap, .slice sa ss.length scap] 34)).alloc (.cells #[.int .i64 0, .int .i64 0] 28)).frozen? ⟨w.heap.size + 1, 1, none⟩ = false := by simp [go_sem]
  refine CO.out.mono ?_
  rintro e w1 ⟨hb, hcase⟩
  have r0 := cell_on hb z0
  have r1 := cell_on hb z1
  have s0 := frozen_on hb z0 y0
  have s1 := frozen_on hb z1 y1
  have BR : Below w.heap.size w w1 := B1.trans (hb.mono (by simp; omega))
  have hqs : w.heap.size + 2 ≤ w1.heap.size := by have := hb.size; simpa using this
  clear z0 z1 y0 y1 hb CO B1
  rcases hcase with ⟨he, q, rfl, hq, HW, HM⟩ | ⟨he, rfl⟩
  · have hq : w.heap.size + 2 ≤ q := by simpa using hq
    have HE := Lib.hid he
    have HG := Lib.hid (openErr_ok he)
    have HZ := Lib.hid (openErr_zero he)
    have HWM := Lib.hid (And.intro HW HM)
    clear he HW HM
    go_wp2_with fail
    refine (low_any _).mono ?_
    rintro e w2 ⟨rfl, hb2⟩
    have HH := Lib.hid (heights_low HG.out (by have := hb2.size; omega) ((HWM.out.1.at HWM.out.1.lt (by omega)).below hb2))
    have hs2 := hb2.size
    go_wp2_with fail
    refine HH.out.mono ?_
    clear HH
    rintro e w3 ⟨v3, rfl, ho3, hb3⟩
    have H3 := hb2.trans (hb3.mono hb2.size)
    have hs3 := H3.size
    have HS := Lib.hid (saddle_any (B := w3.heap.size) HG.out (Nat.le_refl _) (((HWM.out.1.at HWM.out.1.lt (by omega)).below H3).mono hs3) (by simpa using HG.out.hn) (low_range HZ.out.2.2.1) (RS.of_owns' ho3 (by simp)))
    clear hb2 hb3 hs2
    go_wp2_with fail
    refine HS.out.mono ?_
    clear HS
    rintro e w4 ⟨a, rfl, ha, hb4⟩
    have H4 := H3.trans (hb4.mono hs3)
    have HA := Lib.hid ha
    clear ha hb4 H3 hs3 ho3
    go_wp2_with fail
    refine (high_any _).mono ?_
    rintro e w5 ⟨rfl, hb5⟩
    have H5 := H4.trans (hb5.mono H4.size)
    have hs5 := H5.size
    have HH := Lib.hid (heights_high HG.out hs5 ((HWM.out.1.at HWM.out.1.lt (by omega)).below H5))
    clear hb5 H4
    go_wp2_with fail
    refine HH.out.mono ?_
    clear HH
    rintro e w6 ⟨v6, rfl, ho6, hb6⟩
    have H6 := H5.trans (hb6.mono hs5)
    have hs6 := H6.size
    have HS := Lib.hid (saddle_any (B := w6.heap.size) HG.out (Nat.le_refl _) (((HWM.out.1.at HWM.out.1.lt (by omega)).below H6).mono hs6) (by simpa using HG.out.hn) (high_range HZ.out.2.2.1) (RS.of_owns' ho6 (by simp)))
    clear hb6 H5 hs5
    go_wp2_with fail
    refine HS.out.mono ?_
    clear HS
    rintro e w7 ⟨b, rfl, hb, hb7⟩
    have H7 := H6.trans (hb7.mono hs6)
    have HBB := Lib.hid hb
    clear hb hb7 H6 hs6 ho6
    replace s0 := frozen_on H7 r0 s0
    replace s1 := frozen_on H7 r1 s1
    replace r0 := cell_on H7 r0
    replace r1 := cell_on H7 r1
    have hs7 := H7.size
    have BR7 := BR.trans (H7.mono BR.size)
    have hsw : w.heap.size + 1 < w7.heap.size := by omega
    by_cases h0 : a = 10001
    · have h01 : (a == 10001) = true := by simpa using h0
      go_wp2
      obtain ⟨u0, u1⟩ := span_set (.int .i64 0) (.int .i64 0) r0 r1
      refine bodyPost_ret (v := .tuple #[.pointer none, .agg #[.int .i64 0, .int .i64 0], .int .i64 7]) ?_ rfl ?_
      · exact results_tct (t := 2) (p := 3) (u := 4) (ty := 28) rfl _ _ (w.heap.size + 1) _ rfl (load_span (cell_al _ u0) (cell_al _ u1))
      refine ⟨((BR7.setCell (p := ⟨w.heap.size + 1, 0, none⟩) (Nat.le_succ _) _).setCell (p := ⟨w.heap.size + 1, 1, none⟩) (Nat.le_succ _) _).alloc (by simp [World.setCell]; omega) _, .inr ⟨HE.out, 10001, b, h0 ▸ HA.out, HBB.out, .inl ⟨rfl, rfl⟩⟩⟩
    · have h01 : (a == 10001) = false := by simpa using h0
      go_wp2
      have B8 : Below w7.heap.size w7 (w7.alloc (.cells #[.int .i64 a, .int .i64 b] 28)) := (Below.refl _ w7).alloc (Nat.le_refl _) _
      have hC : (fun W => W.cell? ⟨w7.heap.size, 0, none⟩ = some (.int .i64 a) ∧ W.cell? ⟨w7.heap.size, 1, none⟩ = some (.int .i64 b)) (w7.alloc (.cells #[.int .i64 a, .int .i64 b] 28)).drew := ⟨by simp [go_sem], by simp [go_sem]⟩
      have s0' := frozen_on B8 r0 s0
      have s1' := frozen_on B8 r1 s1
      have r0' := cell_on B8 r0
      have r1' := cell_on B8 r1
      generalize w7.alloc (.cells #[.int .i64 a, .int .i64 b] 28) = w8 at B8 hC s0' s1' r0' r1' ⊢
      refine Lim.regC' (fun W => W.cell? ⟨w7.heap.size, 0, none⟩ = some (.int .i64 a) ∧ W.cell? ⟨w7.heap.size, 1, none⟩ = some (.int .i64 b)) [] #[false, false, false, false, false] (by kernel_rfl) rfl ?_
      refine Lim.stepR 0 (fun _ => trivial) rfl (by kernel_rfl) (fun _ _ _ _ h => h) hC rfl ?_; apply Exists.intro; refine ⟨?_, ?_⟩
      · rintro w ⟨r1, r2⟩; go_simp; try with_reducible rfl
      simp only [Act.put, List.setIfInBounds_toArray, List.set_cons_succ, List.set_cons_zero]
      refine Lim.stepR 1 (fun _ => trivial) rfl (by kernel_rfl) (fun _ _ _ _ h => h) hC rfl ?_; apply Exists.intro; refine ⟨?_, ?_⟩
      · rintro w ⟨r1, r2⟩; go_simp; try with_reducible rfl
      simp only [Act.put, List.setIfInBounds_toArray, List.set_cons_succ, List.set_cons_zero]
      refine Lim.stepR 2 (fun _ => trivial) rfl (by kernel_rfl) (fun _ _ _ _ h => h) hC rfl ?_; apply Exists.intro; refine ⟨?_, ?_⟩
      · rintro w ⟨r1, r2⟩; go_simp; try with_reducible rfl
      simp only [Act.put, List.setIfInBounds_toArray, List.set_cons_succ, List.set_cons_zero]
      refine Lim.stepE 3 (fun _ => trivial) rfl (by kernel_rfl) rfl (fun K hK => ?_)
      go_simp
      have hC9 : (fun W => W.cell? ⟨w7.heap.size, 0, none⟩ = some (.int .i64 a) ∧ W.cell? ⟨w7.heap.size, 1, none⟩ = some (.int .i64 b)) ((w8.setCell ⟨w.heap.size + 1, 0, none⟩ (.int .i64 a)).setCell ⟨w.heap.size + 1, 1, none⟩ (.int .i64 b)).drew :=
        ⟨(setCell_far _ _ (by omega)).trans ((setCell_far _ _ (by omega)).trans hC.1), (setCell_far _ _ (by omega)).trans ((setCell_far _ _ (by omega)).trans hC.2)⟩
      refine hK _ _ hC9 ?_
      simp only [Act.put, List.setIfInBounds_toArray, List.set_cons_succ, List.set_cons_zero]
      refine Lim.stepR 4 (fun _ => trivial) rfl (by kernel_rfl) (fun _ _ _ _ h => h) hC9 rfl ?_; apply Exists.intro; refine ⟨?_, ?_⟩
      · rintro w ⟨r1, r2⟩; go_simp; try with_reducible rfl
      simp only [Act.put, List.setIfInBounds_toArray, List.set_cons_succ, List.set_cons_zero]
      refine Lim.stepD (by kernel_rfl) ?_
      obtain ⟨u0, u1⟩ := span_set (.int .i64 a) (.int .i64 b) r0' r1'
      have W1 := ((HWM.out.1.below H7 (by omega)).below B8 (by omega)).setCell (p := w.heap.size + 1) (j := 0) (.int .i64 a) (by omega) (by omega)
      have W2 := W1.setCell (p := w.heap.size + 1) (j := 1) (.int .i64 b) (by omega) (by omega)
      have N1 := ((HWM.out.2.below H7).below B8).setCell (p := w.heap.size + 1) (j := 0) (.int .i64 a) (by omega)
      have N2 := N1.setCell (p := w.heap.size + 1) (j := 1) (.int .i64 b) (by omega)
      have BR9 := ((BR7.trans (B8.mono (by omega))).setCell (p := ⟨w.heap.size + 1, 0, none⟩) (Nat.le_succ _) (.int .i64 a)).setCell (p := ⟨w.heap.size + 1, 1, none⟩) (Nat.le_succ _) (.int .i64 b)
      go_wp2
      refine bodyPost_ret (v := .tuple #[.pointer (some ⟨q, 0, none⟩), .agg #[.int .i64 a, .int .i64 b], .int .i64 0]) ?_ rfl ?_
      · exact results_tct (t := 2) (p := 3) (u := 4) (ty := 28) rfl _ _ (w.heap.size + 1) _ rfl (load_span u0 u1)
      exact ⟨BR9.drew, .inr ⟨HE.out, a, HA.out, b, HBB.out, .inr ⟨h0, q, rfl, by omega, ⟨W2.c0, W2.c1, W2.c2⟩, N2⟩⟩⟩
  · have he1 : (openErr wd hs ss == 0) = false := by simpa using he
    go_wp2
    obtain ⟨u0, u1⟩ := span_set (.int .i64 0) (.int .i64 0) r0 r1
    refine bodyPost_ret (v := .tuple #[.pointer none, .agg #[.int .i64 0, .int .i64 0], .int .i64 (openErr wd hs ss)]) ?_ rfl ?_
    · exact results_tct (t := 2) (p := 3) (u := 4) (ty := 28) rfl _ _ (w.heap.size + 1) _ rfl (load_span u0 u1)
    exact ⟨(BR.setCell (p := ⟨w.heap.size + 1, 0, none⟩) (Nat.le_succ _) _).setCell (p := ⟨w.heap.size + 1, 1, none⟩) (Nat.le_succ _) _, .inl ⟨he, rfl⟩⟩

end Go.Proofs.Ytohjinbgbfggcaa.Rg
/-
  The contract of ridge's function Saddle, and of Passes and Drains.
-/
namespace Go.Proofs.Ytohjinbgbfggcaa.Rg
open Go.RowKit Go.Shelf
open Lim

/-- what Saddle answers: both heights and the error -/
def SadAns (wd : Int) (hs : List (Int × Int)) (ss : List Int) (x y er : Int) : Prop :=
  (openErr wd hs ss ≠ 0 ∧ x = 0 ∧ y = 0 ∧ er = openErr wd hs ss) ∨
  (openErr wd hs ss = 0 ∧ ∃ a b : Int, IsSaddle ⟨wd.toNat, hs, ss⟩ (lowT ⟨wd.toNat, hs, ss⟩) a ∧ IsSaddle ⟨wd.toNat, hs, ss⟩ (highT ⟨wd.toNat, hs, ss⟩) b ∧ ((a = 10001 ∧ x = 0 ∧ y = 0 ∧ er = 7) ∨ (a ≠ 10001 ∧ x = a ∧ y = b ∧ er = 0)))
theorem crossed_ans {B : Nat} {wd : Int} {hv sv : Value} {hs : List (Int × Int)} {ss : List Int} {w : World} (hB : B ≤ w.heap.size) (hh : RS B w hv hs.length (spans hs)) (hss : RS B w sv ss.length (ints ss)) :
    Calls Try.prog 17 #[.agg #[.int .i64 wd, hv, sv]] w fun e w' => ∃ p x y er, e = .returned (.tuple #[.pointer p, .agg #[.int .i64 x, .int .i64 y], .int .i64 er]) ∧ Below w.heap.size w w' ∧ SadAns wd hs ss x y er ∧
      (er ≠ 0 → p = none) ∧ (er = 0 → ∃ q, p = some ⟨q, 0, none⟩ ∧ w.heap.size ≤ q ∧ WorkIn B w' q ⟨wd.toNat, hs, ss⟩ ∧ MetAt w' q (fun _ => false)) := by
  refine (crossed_any hB hh hss).mono ?_
  rintro e w' ⟨hb, ⟨h0, rfl⟩ | ⟨h0, a, b, ha, hb', ⟨h1, rfl⟩ | ⟨h1, q, rfl, hq⟩⟩⟩
  · exact ⟨none, 0, 0, _, rfl, hb, .inl ⟨h0, rfl, rfl, rfl⟩, fun _ => rfl, fun h => absurd h h0⟩
  · exact ⟨none, 0, 0, 7, rfl, hb, .inr ⟨h0, a, b, ha, hb', .inl ⟨h1, rfl, rfl, rfl⟩⟩, fun _ => rfl, fun h => absurd h (by decide)⟩
  · exact ⟨_, a, b, 0, rfl, hb, .inr ⟨h0, a, b, ha, hb', .inr ⟨h1, rfl, rfl, rfl⟩⟩, fun h => absurd rfl h, fun _ => ⟨q, rfl, hq⟩⟩

theorem results_ct {P : Program} {fn : Func} {p u : Tmp} {ty : TypeId} (h : fn.results = #[.cell p ty, .tmp u]) (tmps : Array Value) (w : World) (b : Nat) (v : Value)
    (hp : tmps.getD p undef = .pointer (some ⟨b, 0, none⟩)) (hl : (loadVar ty ⟨b, 0, none⟩).run P w = .ok v w) : (results fn tmps).run P w = .ok (.tuple #[v, tmps.getD u undef]) w := by
  have hp' : tmps[p]?.getD undef = .pointer (some ⟨b, 0, none⟩) := by simpa using hp
  simp [results, h, hp', asAddr, hl]

set_option maxHeartbeats 1000000 in
theorem Saddle_any {B : Nat} {wd : Int} {hv sv : Value} {hs : List (Int × Int)} {ss : List Int} {w : World} (hB : B ≤ w.heap.size) (hh : RS B w hv hs.length (spans hs)) (hss : RS B w sv ss.length (ints ss)) :
    Calls Try.prog 6 #[.agg #[.int .i64 wd, hv, sv]] w fun e w' => ∃ x y er, e = .returned (.tuple #[.agg #[.int .i64 x, .int .i64 y], .int .i64 er]) ∧ Below w.heap.size w w' ∧ SadAns wd hs ss x y er := by
  have B1 : Below w.heap.size w ((w.alloc (.cells #[.int .i64 wd, hv, sv] 34)).alloc (.cells #[.int .i64 0, .int .i64 0] 28)) := ((Below.refl _ w).alloc (Nat.le_refl _) _).alloc (by simp) _
  have CO := Lib.hid (crossed_ans (B := B) (wd := wd) (by simp; omega) (hh.below (B1.mono hB)) (hss.below (B1.mono hB)))
  obtain ⟨ha, hcap, rfl, -⟩ := hh
  obtain ⟨sa, scap, rfl, -⟩ := hss
  go_enter Try.func6, Try.ntmps6
  go_wp2_with fail
  have z0 : ((w.alloc (.cells #[.int .i64 wd, .slice ha hs.length hcap, .slice sa ss.length scap] 34)).alloc (.cells #[.int .i64 0, .int .i64 0] 28)).cell? ⟨w.heap.size + 1, 0, none⟩ = some (.int .i64 0) := by simp [go_sem]
  have z1 : ((w.alloc (.cells #[.int .i64 wd, .slice ha hs.length hcap, .slice sa ss.length scap] 34)).alloc (.cells #[.int .i64 0, .int .i64 0] 28)).cell? ⟨w.heap.size + 1, 1, none⟩ = some (.int .i64 0) := by simp [go_sem]
  have y0 : ((w.alloc (.cells #[.int .i64 wd, .slice ha hs.length hcap, .slice sa ss.length scap] 34)).alloc (.cells #[.int .i64 0, .int .i64 0] 28)).frozen? ⟨w.heap.size + 1, 0, none⟩ = false := by simp [go_sem]
  have y1 : ((w.alloc (.cells #[.int .i64 wd, .slice ha hs.length hcap, .slice sa ss.length scap] 34)).alloc (.cells #[.int .i64 0, .int .i64 0] 28)).frozen? ⟨w.heap.size + 1, 1, none⟩ = false := by simp [go_sem]
  refine CO.out.mono ?_
  rintro e w1 ⟨p, x, y, er, rfl, hb, hans, -⟩
  have r0 := cell_on hb z0
  have r1 := cell_on hb z1
  have s0 := frozen_on hb z0 y0
  have s1 := frozen_on hb z1 y1
  have BR : Below w.heap.size w w1 := B1.trans (hb.mono (by simp; omega))
  have hqs : w.heap.size + 1 < w1.heap.size := by have := hb.size; simp at this; omega
  have HA := Lib.hid hans
  clear z0 z1 y0 y1 hb CO B1 hans
  go_wp2
  obtain ⟨u0, u1⟩ := span_set (.int .i64 x) (.int .i64 y) r0 r1
  refine bodyPost_ret (v := .tuple #[.agg #[.int .i64 x, .int .i64 y], .int .i64 er]) ?_ rfl ?_
  · exact results_ct (p := 2) (u := 3) (ty := 28) rfl _ _ (w.heap.size + 1) _ rfl (load_span (cell_al _ u0) (cell_al _ u1))
  exact ⟨x, y, er, rfl, ((BR.setCell (p := ⟨w.heap.size + 1, 0, none⟩) (Nat.le_succ _) _).setCell (p := ⟨w.heap.size + 1, 1, none⟩) (Nat.le_succ _) _).alloc (by simp [World.setCell]; omega) _, HA.out⟩
end Go.Proofs.Ytohjinbgbfggcaa.Rg
