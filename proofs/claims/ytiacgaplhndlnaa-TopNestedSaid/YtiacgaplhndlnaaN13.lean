/-
  Parts of the proof, in the order in which they build: EvM.
-/
import Derived.Test.YtiacgaplhndlnaaRows
import Derived.Shelf.Abstract
import Derived.WalkSpells
import Derived.WalkLawsBesides
import Derived.Laws.EntriesVeiled
import Derived.Lib.Hide
import Derived.IntWalk
import Derived.BigQuiet
import Derived.Test.YtiacgaplhndlnaaN3
import Derived.Test.YtiacgaplhndlnaaN1
import Derived.Test.YtiacgaplhndlnaaN12
import Derived.Test.YtiacgaplhndlnaaN11
set_option linter.unusedVariables false
set_option linter.unusedSimpArgs false
namespace Go.Proofs.Ytiacgaplhndlnaa
open Go.RowKit Go.Shelf
open Lim

theorem setCell_far (w : World) {p q i j : Nat} (v : Value) (h : p ≠ q) : (w.setCell ⟨p, i, none⟩ v).cell? ⟨q, j, none⟩ = w.cell? ⟨q, j, none⟩ := World.cell?_setCell_other w _ _ _ (fun e => h (congrArg Addr.block e))
theorem setCell_off (w : World) {p i j : Nat} (v : Value) (h : i ≠ j) : (w.setCell ⟨p, i, none⟩ v).cell? ⟨p, j, none⟩ = w.cell? ⟨p, j, none⟩ := World.cell?_setCell_other w _ _ _ (fun e => h (congrArg Addr.off e))
theorem setCell_same (w : World) {p i : Nat} {u : Value} (v : Value) (h : w.cell? ⟨p, i, none⟩ = some u) : (w.setCell ⟨p, i, none⟩ v).cell? ⟨p, i, none⟩ = some v := World.cell?_setCell_same' _ _ _ (by rw [h]; rfl)
theorem below_drewN {B : Nat} {w w' : World} (h : Below B w w') (n : Nat) : Below B w (w'.drewN n) := ⟨h.os, h.tape, h.output, h.size, h.block⟩
theorem heap_set_ne {w : World} {g k j : Nat} (v : Value) (h : k ≠ g) : (w.setCell ⟨g, j, none⟩ v).heap[k]? = w.heap[k]? := Below.heap_setCell w ⟨g, j, none⟩ v k h
/-- W' is W, but for the blocks of T; there may be new ones -/
structure Sep (T : Nat → Prop) (W W' : World) : Prop where
  os : W'.os = W.os
  tape : W'.tape = W.tape
  output : W'.output = W.output
  size : W.heap.size ≤ W'.heap.size
  same : ∀ k, k < W.heap.size → ¬ T k → W'.heap[k]? = W.heap[k]?
section
variable {T T' : Nat → Prop} {W W' W'' : World}
theorem Sep.refl (W : World) : Sep T W W := ⟨rfl, rfl, rfl, Nat.le_refl _, fun _ _ _ => rfl⟩
theorem Sep.mono (h : Sep T W W') (hT : ∀ k, T k → T' k) : Sep T' W W' := ⟨h.os, h.tape, h.output, h.size, fun k h1 h2 => h.same k h1 (fun h3 => h2 (hT k h3))⟩
theorem Sep.trans (h : Sep T W W') (h' : Sep T W' W'') : Sep T W W'' :=
  ⟨h'.os.trans h.os, h'.tape.trans h.tape, h'.output.trans h.output, Nat.le_trans h.size h'.size, fun k h1 h2 => (h'.same k (Nat.lt_of_lt_of_le h1 h.size) h2).trans (h.same k h1 h2)⟩
theorem Sep.of_grown {row : Option Nat} (h : W.grownBy W' row) : Sep (fun k => row = some k) W W' := ⟨h.os, h.tape, h.output, h.size, fun k h1 h2 => h.block k h1 (fun e => h2 e.symm)⟩
theorem Sep.of_below (h : Below W.heap.size W W') : Sep T W W' := ⟨h.os, h.tape, h.output, h.size, fun k h1 _ => h.block k h1⟩
theorem Sep.drew (W : World) : Sep T W W.drew := Sep.of_below (Below.refl _ _).drew
theorem Sep.alloc (W : World) (o : Obj) : Sep T W (W.alloc o) := Sep.of_below ((Below.refl _ _).alloc (Nat.le_refl _) o)
theorem Sep.set (W : World) (b j : Nat) (v : Value) : Sep (fun k => k = b) W (W.setCell ⟨b, j, none⟩ v) := ⟨rfl, rfl, rfl, by simp [World.setCell], fun k _ h2 => heap_set_ne v h2⟩
theorem Sep.cell (h : Sep T W W') {b j : Nat} {v : Value} (hc : W.cell? ⟨b, j, none⟩ = some v) (hT : ¬ T b) : W'.cell? ⟨b, j, none⟩ = some v :=
  (World.cell?_of_block (w := W) (h.same b (World.block_lt_of_cell? _ _ hc) hT)).trans hc
theorem Sep.frozen (h : Sep T W W') {b j : Nat} {v : Value} (hc : W.cell? ⟨b, j, none⟩ = some v) (hT : ¬ T b) (hf : W.frozen? ⟨b, j, none⟩ = false) : W'.frozen? ⟨b, j, none⟩ = false :=
  (World.frozen?_of_block (w := W) (h.same b (World.block_lt_of_cell? _ _ hc) hT)).trans hf
theorem Sep.heap (h : Sep T W W') {b : Nat} {o : Obj} (hc : W.heap[b]? = some o) (hT : ¬ T b) : W'.heap[b]? = some o := (h.same b (Array.getElem?_eq_some_iff.1 hc).1 hT).trans hc
theorem Sep.below (h : Sep T W W') {B : Nat} (hB : B ≤ W.heap.size) (hT : ∀ k, T k → B ≤ k) : Below B W W' := ⟨h.os, h.tape, h.output, h.size, fun k hk => h.same k (by omega) (fun h1 => by have := hT k h1; omega)⟩
theorem Sep.on (h : Sep T W W') (hT : ∀ k, k < W.heap.size → ¬ T k) : Below W.heap.size W W' := ⟨h.os, h.tape, h.output, h.size, fun k hk => h.same k hk (hT k hk)⟩
theorem Sep.owns (h : Sep T W W') {base e : Nat} {v : Value} {xs : List Value} (ho : ownsQ W base e v xs) (hT : ∀ k, v.ownBlock = some k → ¬ T k) : ownsQ W' base e v xs := by
  rcases ho with h1 | ⟨g, off, cap, cur, h1, h2, h3, h4⟩
  · exact .inl h1
  · exact .inr ⟨g, off, cap, cur, h1, h2, h.heap h3 (hT g (by rw [h1]; simp [Value.ownBlock])), h4⟩
theorem Sep.grown (h : Sep T W W') {b : Nat} (hT : ∀ k, k < W.heap.size → T k → k = b) : W.grownBy W' (some b) := ⟨h.os, h.tape, h.output, h.size, fun k hk hne => h.same k hk (fun h1 => hne (by rw [hT k hk h1]))⟩
/-- seen from an earlier world -/
theorem Sep.from {W0 : World} (h0 : Sep T W0 W) (h : Sep T' W W') (hT : ∀ k, k < W0.heap.size → T' k → T k) : Sep T W0 W' :=
  ⟨h.os.trans h0.os, h.tape.trans h0.tape, h.output.trans h0.output, Nat.le_trans h0.size h.size, fun k h1 h2 => (h.same k (Nat.lt_of_lt_of_le h1 h0.size) (fun h3 => h2 (hT k h1 h3))).trans (h0.same k h1 h2)⟩
theorem Sep.keeps (h : Sep T W W') (hT : ∀ k o, T k → W.heap[k]? = some o → o.isCells = true) : KeepsOthers W W' :=
  ⟨h.size, fun k o hk ho => (h.same k (Array.getElem?_eq_some_iff.1 hk).1 (fun h1 => by rw [hT k o h1 hk] at ho; cases ho)).trans hk⟩
end
/-- a stack at bs has the numbers q -/
structure StM (bs : Nat) (q : List Nat) (W : World) : Prop where
  ex : ∃ v, W.cell? ⟨bs, 0, none⟩ = some v ∧ W.frozen? ⟨bs, 0, none⟩ = false ∧ ownsQ W (bs + 1) 3 v (ints (q.map Int.ofNat))
/-- its own block does not lie from lo on, below hi -/
def StA (bs lo hi : Nat) (W : World) : Prop := ∀ v g, W.cell? ⟨bs, 0, none⟩ = some v → v.ownBlock = some g → g < lo ∨ hi ≤ g
section
variable {bs lo hi : Nat} {q : List Nat} {W W' : World}
theorem StM.lt (h : StM bs q W) : bs < W.heap.size := let ⟨_, h1, _⟩ := h.ex; World.block_lt_of_cell? _ _ h1
theorem StM.sep {T : Nat → Prop} (h : StM bs q W) (hs : Sep T W W') (hT : ∀ k, T k → k < bs) : StM bs q W' := by
  obtain ⟨v, h1, h2, h3⟩ := h.ex
  have hb : ¬ T bs := fun h => by have := hT _ h; omega
  exact ⟨v, hs.cell h1 hb, hs.frozen h1 hb h2, hs.owns h3 (fun k hk ht => by have := (h3.lt k hk).1; have := hT k ht; omega)⟩
theorem StM.below (h : StM bs q W) (hb : Below W.heap.size W W') : StM bs q W' := h.sep (T := fun _ => False) (Sep.of_below hb) (fun _ h => h.elim)
theorem StM.steady {B : Nat} (h : StM bs q W) (hs : Steady B W W') : StM bs q W' := by
  obtain ⟨v, h1, h2, h3⟩ := h.ex
  exact ⟨v, hs.cell h1, (hs.frozen h1).trans h2, h3.steady hs⟩
theorem StA.sep {T : Nat → Prop} (h : StA bs lo hi W) (hm : StM bs q W) (hs : Sep T W W') (hT : ¬ T bs) : StA bs lo hi W' := by
  obtain ⟨v, h1, -⟩ := hm.ex
  intro u g hu hg
  have h2 := hs.cell h1 hT
  rw [h2] at hu
  cases hu
  exact h v g h1 hg
theorem StA.steady {B : Nat} (h : StA bs lo hi W) (hm : StM bs q W) (hs : Steady B W W') : StA bs lo hi W' := by
  obtain ⟨v, h1, -⟩ := hm.ex
  intro u g hu hg
  rw [hs.cell h1] at hu
  cases hu
  exact h v g h1 hg
theorem StM.apart (h : StM bs q W) (hi : Nat) : StA bs W.heap.size hi W := by
  obtain ⟨v, h1, -, h3⟩ := h.ex
  intro u g hu hg
  rw [h1] at hu
  cases hu
  exact .inl (h3.lt g hg).2
theorem StM.new (W : World) {t : Nat} : StM W.heap.size [] (W.alloc (.cells #[.slice none 0 0] t)) := by
  refine ⟨.slice none 0 0, ?_, ?_, .inl ⟨rfl, rfl⟩⟩ <;> simp [go_sem]
/-- the blocks that a put touches: the stack's box and its own block -/
def StT (bs : Nat) (W : World) (k : Nat) : Prop := k = bs ∨ ∃ v, W.cell? ⟨bs, 0, none⟩ = some v ∧ v.ownBlock = some k
theorem StT.ge (h : StM bs q W) {k : Nat} (hk : StT bs W k) : bs ≤ k := by
  rcases hk with rfl | ⟨v, h1, h2⟩
  · exact Nat.le_refl _
  · obtain ⟨u, h3, -, h4⟩ := h.ex
    rw [h3] at h1; cases h1
    have := (h4.lt k h2).1
    omega
theorem StT.apart (h : StA bs lo hi W) (hb : bs < lo) {k : Nat} (hk : StT bs W k) : k < lo ∨ hi ≤ k := by
  rcases hk with rfl | ⟨v, h1, h2⟩
  · exact .inl hb
  · exact h v k h1 h2
theorem StT.cells (h : StM bs q W) (k : Nat) (o : Obj) (hk : StT bs W k) (ho : W.heap[k]? = some o) : o.isCells = true := by
  obtain ⟨u, h3, -, h4⟩ := h.ex
  rcases hk with rfl | ⟨v, h1, h2⟩
  · obtain ⟨o', h5, h6⟩ := cells_of_cell h3
    have h7 : W.heap[k]? = some o' := h5
    rw [ho] at h7; cases h7; exact h6
  · rw [h3] at h1; cases h1
    rcases h4 with ⟨rfl, -⟩ | ⟨g, off, cap, cur, rfl, -, h5, -⟩
    · simp [Value.ownBlock] at h2
    · simp [Value.ownBlock] at h2
      subst h2
      rw [ho] at h5; cases h5; rfl
end
theorem put_st {bs : Nat} {q : List Nat} {x : Nat} {w : World} (hm : StM bs q w) (hl : q.length ≤ 4000000) :
    Calls Try.prog 81 #[.pointer (some ⟨bs, 0, none⟩), .int .i64 x] w fun e w' => e = .returned (.tuple #[]) ∧ StM bs (q ++ [x]) w' ∧ Sep (StT bs w) w w' ∧ (∀ k, StT bs w' k → StT bs w k ∨ w.heap.size ≤ k) := by
  obtain ⟨v, h1, h2, h3⟩ := hm.ex
  have hlt := hm.lt
  refine (put_any (x := (x : Int)) h1 h2 h3 (Nat.lt_succ_self _) (by omega) (by simpa [ints] using hl)).mono ?_
  rintro e w' ⟨rfl, v', w1, g1, g2, rfl, g4, g5, g6⟩
  refine ⟨rfl, ⟨v', g4, g5, by simpa [ints] using g1⟩, ?_, fun k hk => ?_⟩
  · refine ((Sep.of_grown g2).mono (fun k hk => ?_)).trans ((Sep.set w1 bs 0 v').mono (fun k hk => .inl hk))
    exact .inr ⟨v, h1, hk⟩
  · rcases hk with rfl | ⟨u, h5, h6⟩
    · exact .inl (.inl rfl)
    · rw [g4] at h5; cases h5
      rcases g6 k h6 with h7 | h7
      · exact .inl (.inr ⟨v, h1, h7⟩)
      · exact .inr h7
theorem take_st {bs : Nat} {q : List Nat} {x : Nat} {w : World} (hm : StM bs (q ++ [x]) w) (hl : q.length ≤ 4000000) :
    Calls Try.prog 83 #[.pointer (some ⟨bs, 0, none⟩)] w fun e w' => e = .returned (.int .i64 x) ∧ StM bs q w' ∧ Sep (fun k => k = bs) w w' ∧ (∀ k, StT bs w' k → StT bs w k) := by
  obtain ⟨v, h1, h2, h3⟩ := hm.ex
  have e : ints ((q ++ [x]).map Int.ofNat) = ints (q.map Int.ofNat) ++ [.int .i64 (x : Int)] := by simp [ints]
  rw [e] at h3
  refine (take_any h1 h2 h3 (Nat.lt_succ_self _) (by simpa [ints] using hl)).mono ?_
  rintro e w' ⟨rfl, v', g1, rfl, g3, g4, g5⟩
  refine ⟨rfl, ⟨v', g3, g4, g1⟩, Sep.set w bs 0 v', fun k hk => ?_⟩
  rcases hk with rfl | ⟨u, h5, h6⟩
  · exact .inl rfl
  · rw [g3] at h5; cases h5
    exact .inr ⟨v, h1, by rw [← g5]; exact h6⟩
theorem StM.len {bs : Nat} {q : List Nat} {W : World} (h : StM bs q W) : ∃ a c, W.cell? ⟨bs, 0, none⟩ = some (.slice a q.length c) := by
  obtain ⟨v, h1, -, h3⟩ := h.ex
  rcases h3 with ⟨rfl, h4⟩ | ⟨g, off, cap, cur, rfl, -⟩
  · have : q = [] := by simpa [ints] using h4
    subst this
    exact ⟨_, _, h1⟩
  · exact ⟨_, _, by simpa [ints] using h1⟩
end Go.Proofs.Ytiacgaplhndlnaa
