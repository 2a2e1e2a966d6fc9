/-
  Parts of the proof, in the order in which they build: Rep.
-/
import Derived.WalkKit
import Derived.Test.YtiacgaplhndlnaaF2
set_option linter.unusedVariables false
set_option linter.unusedSimpArgs false
namespace Go.Proofs.Ytiacgaplhndlnaa.Lim
open Go Go.RowKit

def ints (l : List Int) : List Value := l.map (Value.int .i64)
def spans (l : List (Int × Int)) : List Value := l.flatMap fun s => [Value.int .i64 s.1, Value.int .i64 s.2]
def bools (l : List Bool) : List Value := l.map Value.bool
theorem ints_at (l : List Int) (k : Nat) (h : k < l.length) : (ints l)[k]? = some (.int .i64 l[k]) := by simp [ints, h]
theorem ints_at' (l : List Int) (k : Nat) (h : k < l.length) : (ints l)[k]? = some (.int .i64 (l[k]?.getD 0)) := by simp [ints, h]
theorem ints_ne {l : List Int} (h : 0 < l.length) : ints l ≠ [] := by cases l <;> simp_all [ints]
theorem ints_length (l : List Int) : (ints l).length = l.length := by simp [ints]
theorem spans_length (l : List (Int × Int)) : (spans l).length = l.length * 2 := by
  induction l with
  | nil => rfl
  | cons s l ih => simp [spans] at ih ⊢; omega
theorem spans_cons (s : Int × Int) (l : List (Int × Int)) : spans (s :: l) = .int .i64 s.1 :: .int .i64 s.2 :: spans l := by simp [spans]
theorem spans_lo (l : List (Int × Int)) : ∀ (k : Nat) (h : k < l.length), (spans l)[k * 2]? = some (.int .i64 l[k].1) := by
  induction l with
  | nil => intro k h; simp at h
  | cons s l ih =>
    intro k h
    rw [spans_cons]
    cases k with
    | zero => simp
    | succ k =>
      have := ih k (by simpa using h)
      rw [show (k + 1) * 2 = k * 2 + 1 + 1 from by omega]
      simpa using this
theorem spans_hi (l : List (Int × Int)) : ∀ (k : Nat) (h : k < l.length), (spans l)[k * 2 + 1]? = some (.int .i64 l[k].2) := by
  induction l with
  | nil => intro k h; simp at h
  | cons s l ih =>
    intro k h
    rw [spans_cons]
    cases k with
    | zero => simp
    | succ k =>
      have := ih k (by simpa using h)
      rw [show (k + 1) * 2 + 1 = k * 2 + 1 + 1 + 1 from by omega]
      simpa using this
theorem spans_ne {l : List (Int × Int)} (h : 0 < l.length) : spans l ≠ [] := by cases l <;> simp_all [spans]

/-- a slice of n elements that is only read: its cells xs lie in a block below B -/
def RS (B : Nat) (w : World) (v : Value) (n : Nat) (xs : List Value) : Prop :=
  ∃ a cap, v = .slice a n cap ∧ (xs ≠ [] → ∃ b off, a = some ⟨b, off, none⟩ ∧ b < B ∧ ∀ j u, xs[j]? = some u → w.cell? ⟨b, off + j, none⟩ = some u)
theorem RS.nil (B : Nat) (w : World) : RS B w (.slice none 0 0) 0 [] := ⟨none, 0, rfl, fun h => absurd rfl h⟩
theorem RS.mono {B B' : Nat} {w : World} {v : Value} {n : Nat} {xs : List Value} (h : RS B w v n xs) (hB : B ≤ B') : RS B' w v n xs := by
  obtain ⟨a, cap, hv, h⟩ := h
  exact ⟨a, cap, hv, fun hne => let ⟨b, off, h1, h2, h3⟩ := h hne; ⟨b, off, h1, by omega, h3⟩⟩
theorem RS.below {B : Nat} {w w' : World} {v : Value} {n : Nat} {xs : List Value} (h : RS B w v n xs) (hb : Below B w w') : RS B w' v n xs := by
  obtain ⟨a, cap, hv, h⟩ := h
  exact ⟨a, cap, hv, fun hne => let ⟨b, off, h1, h2, h3⟩ := h hne; ⟨b, off, h1, h2, fun j u hj => (hb.cell (p := ⟨b, off + j, none⟩) h2).trans (h3 j u hj)⟩⟩
theorem RS.steady {B B' : Nat} {w w' : World} {v : Value} {n : Nat} {xs : List Value} (h : RS B w v n xs) (hb : Steady B' w w') : RS B w' v n xs := by
  obtain ⟨a, cap, hv, h⟩ := h
  exact ⟨a, cap, hv, fun hne => let ⟨b, off, h1, h2, h3⟩ := h hne; ⟨b, off, h1, h2, fun j u hj => hb.cell (h3 j u hj)⟩⟩
/-- a slice that the call itself made is one that can be read -/
theorem RS.of_owns {w : World} {base e size : Nat} {v : Value} {n : Nat} {xs : List Value} (h : w.ownsRow base e size v n xs) : RS w.heap.size w v n xs := by
  rcases h.2 with ⟨rfl, rfl⟩ | ⟨g, cap, cur, rfl, hb, hg, hn, hm, hs, ht⟩
  · exact ⟨none, 0, rfl, fun hne => by have := h.1; simp at this; exact absurd this hne⟩
  · refine ⟨some ⟨g, 0, none⟩, cap, rfl, fun _ => ⟨g, 0, rfl, (Array.getElem?_eq_some_iff.1 hg).1, fun j u hj => ?_⟩⟩
    have := h.cells (g := g) rfl j u hj
    have e : (⟨g, 0, none⟩ : Addr).add j = ⟨g, 0 + j, none⟩ := by unfold Addr.add; split <;> simp_all
    rw [e] at this
    exact this

/-- what the call itself made stays what it is while only new memory is laid -/
theorem owns_below {w w' : World} {base e size : Nat} {v : Value} {n : Nat} {xs : List Value} (h : w.ownsRow base e size v n xs) (hb : Below w.heap.size w w') : w'.ownsRow base e size v n xs := by
  refine ⟨h.1, ?_⟩
  rcases h.2 with hn | ⟨g, cap, cur, hv, hB, hg, r⟩
  · exact .inl hn
  · exact .inr ⟨g, cap, cur, hv, hB, (hb.block g (Array.getElem?_eq_some_iff.1 hg).1).trans hg, r⟩
theorem owns_mono {w : World} {base base' e size : Nat} {v : Value} {n : Nat} {xs : List Value} (h : w.ownsRow base e size v n xs) (hb : base' ≤ base) : w.ownsRow base' e size v n xs := by
  refine ⟨h.1, ?_⟩
  rcases h.2 with hn | ⟨g, cap, cur, hv, hB, hg, r⟩
  · exact .inl hn
  · exact .inr ⟨g, cap, cur, hv, Nat.le_trans hb hB, hg, r⟩
theorem ints_snoc (l : List Int) (k : Nat) (h : k < l.length) : ints (l.take (k + 1)) = ints (l.take k) ++ [.int .i64 l[k]] := by
  rw [List.take_succ_eq_append_getElem h]; unfold ints; rw [List.map_append]; rfl
theorem ints_map_snoc {α : Type} (l : List α) (f : α → Int) (k : Nat) (h : k < l.length) : ints ((l.take (k + 1)).map f) = ints ((l.take k).map f) ++ [.int .i64 (f l[k])] := by
  rw [List.take_succ_eq_append_getElem h]; unfold ints; rw [List.map_append, List.map_append]; rfl

theorem cell_on {w w' : World} (hb : Below w.heap.size w w') {a : Addr} {v : Value} (hc : w.cell? a = some v) : w'.cell? a = some v := (hb.cell (World.block_lt_of_cell? _ _ hc)).trans hc
theorem frozen_on {w w' : World} (hb : Below w.heap.size w w') {a : Addr} {v : Value} (hc : w.cell? a = some v) (hf : w.frozen? a = false) : w'.frozen? a = false := (hb.frozen (World.block_lt_of_cell? _ _ hc)).trans hf

theorem cell_al {w : World} (o : Obj) {a : Addr} {v : Value} (hc : w.cell? a = some v) : (w.alloc o).cell? a = some v := cell_on ((Below.refl _ w).alloc (Nat.le_refl _) o) hc

/-- a point on which two worlds agree below B is read alike -/
theorem cell_below {B : Nat} {w w' : World} (h : Below B w w') {a : Addr} {v : Value} (hc : w.cell? a = some v) (hB : a.block < B) : w'.cell? a = some v := (h.cell hB).trans hc

end Go.Proofs.Ytiacgaplhndlnaa.Lim
