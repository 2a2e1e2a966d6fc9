/-
  Parts of the proof, in the order in which they build: PsE.
-/
import Derived.Test.YtobmhamdkngehaaC59
import Derived.Test.YtobmhamdkngehaaA45
set_option linter.unusedVariables false
set_option linter.unusedSimpArgs false
namespace Go.Proofs.Ytobmhamdkngehaa
open Go.RowKit Go.Shelf
open Lim

theorem Mem.start2R {w w1 w2 w3 : World} {B : Nat} {uv : Value} {u : List Int} {k s : Int} {R : List Row} (hB : B ≤ w.heap.size) (hu : RS B w uv u.length (u8s u))
  (hb1 : Below w.heap.size w w1) (hs1 : w1.heap.size = w.heap.size + 1) (hd1 : Dk w2 w1.heap.size uv u k s) (hb2 : Below w1.heap.size w1 w2) (hs2 : w2.heap.size = w1.heap.size + 1) (hk : k ≤ 0) (hgr : w2.grownBy w3 (some w.heap.size))
  (o : ∀ r ∈ R, r.Owned w3 w2.heap.size) : Mem w w2.heap.size w1.heap.size 0 R [] [] w3 := by
 have h1 := hb1.size
 have h4 := hgr.size
 exact ⟨Below.grown (hb1.trans (hb2.mono h1)) hgr (by omega) (fun r e => by cases e; exact Nat.le_refl _), ⟨h1, by omega, h4⟩, (hd1.other (hu.below ((hb1.trans (hb2.mono h1)).mono hB)) hB (by omega) (by omega) hgr).deck (n := 0) (by omega), o, fun r hr => (by cases hr), fun p hp => (by cases hp), fun p hp => (by cases hp), fun p hp => (by cases hp), List.Pairwise.nil, List.Pairwise.nil, fun q hq => (by cases hq)⟩
theorem Mem.start1Q {w w1 w3 : World} {c : Nat} {Q : List Row}
  (hb1 : Below w.heap.size w w1) (hs1 : w1.heap.size = w.heap.size + 1) (hgr : w1.grownBy w3 (some w.heap.size)) (hd : Deck w3 w.heap.size c)
  (o : ∀ r ∈ Q, r.Owned w3 w1.heap.size) (oo : Q.Pairwise Row.Apart) : Mem w w1.heap.size w.heap.size c [] Q [] w3 := by
 have h1 := hb1.size
 have h4 := hgr.size
 exact ⟨Below.grown hb1 hgr (by omega) (fun r e => by cases e; exact Nat.le_refl _), ⟨Nat.le_refl _, by omega, h4⟩, hd, fun r hr => (by cases hr), o, fun p hp => (by cases hp), fun p hp => (by cases hp), fun p hp => (by cases hp), List.Pairwise.nil, oo, fun q hq r hr => (by cases hr)⟩
/-- lists of numbers, as rows -/
theorem RowsI.lists {S : Nat} {W : World} {v : Value} {Ls : List (List Int)} (h : RowsI S W v Ls) : ∃ (vs : List Value) (N : List Row), (∀ r ∈ N, r.Owned W S) ∧ (⟨22, 1, v, Ls.length, vs⟩ : Row) ∈ N ∧ ∀ (k : Nat) (l : List Int), Ls[k]? = some l → ∃ x, vs[k]? = some x ∧ rwI x l.length l ∈ N := by
 obtain ⟨vs, h1, h2⟩ := h
 refine ⟨vs, ⟨22, 1, v, Ls.length, vs⟩ :: (List.range Ls.length).map (fun k => rwI (vs.getD k (.int .i64 0)) (Ls.getD k []).length (Ls.getD k [])), fun r hr => ?_, List.mem_cons_self, fun k l hk => ?_⟩
 ·rcases List.mem_cons.1 hr with rfl | hr
  ·exact h1
  ·obtain ⟨k, hk, rfl⟩ := List.mem_map.1 hr
   have hk := List.mem_range.1 hk
   obtain ⟨x, hx, ho⟩ := h2 k (Ls.getD k []) (by rw [List.getD_eq_getElem?_getD, List.getElem?_eq_getElem hk]; rfl)
   show World.ownsRow _ _ _ _ (vs.getD k (.int .i64 0)) _ _
   rw [List.getD_eq_getElem?_getD, hx]
   exact ho
 ·obtain ⟨x, hx, -⟩ := h2 k l hk
  refine ⟨x, hx, List.mem_cons_of_mem _ (List.mem_map.2 ⟨k, List.mem_range.2 (List.getElem?_eq_some_iff.1 hk).1, ?_⟩)⟩
  rw [List.getD_eq_getElem?_getD, hx, List.getD_eq_getElem?_getD, hk]
  rfl
theorem rowsI_len {S : Nat} {W : World} {e : TypeId} {v : Value} {n : Nat} {vs : List Value} (h : (⟨e, 1, v, n, vs⟩ : Row).Owned W S) : vs.length = n := by
 have := h.1
 simpa using this
/-! What the calls answer. -/
theorem read_ok {d : Rd} (h : d.err = 0) : readAns d = .tuple #[.int .i64 (total d), .int .i64 0] := by
 unfold readAns
 rw [if_neg (by rw [h]; simp)]
theorem wrong_reads {d : Rd} (h : d.err = 0) (hp : 0 < total d) {S : Nat} {v : Value} {er : Int} {W : World} (ha : WrAns d S v er W) : v = .slice none 0 0 ∧ er = 10 := by
 rcases ha with ⟨h1, -⟩ | ⟨-, -, h2, h3⟩ | ⟨-, h1, -⟩
 ·exact absurd h h1
 ·exact ⟨h3, h2⟩
 ·omega
theorem nums_have {M : Nat} {d : Rd} {T : List Int} {L : List Nat} (H : StoP M d T L) {k : Nat} (hk : k < d.m.length) : nums d k ≠ [] := fun e => by
 have := H.mem hk
 rw [e] at this
 cases this
theorem numbers_ok {M : Nat} {d : Rd} {T : List Int} {L : List Nat} (hM : M ≤ 12) (H : StoP M d T L) {S : Nat} {v : Value} {er : Int} {W : World} (ha : NumAns d S v er W) : er = 0 ∧ RowsI S W v ((List.range d.m.length).map (nums d)) := by
 rcases ha with ⟨h1, -⟩ | ⟨-, ⟨k, hk, h2⟩, -⟩ | ⟨-, -, h2, h3⟩
 ·exact absurd (H.err hM) h1
 ·exact absurd h2 (nums_have H hk)
 ·exact ⟨h2, h3⟩
theorem nums_len (d : Rd) (k : Nat) : (nums d k).length ≤ d.r.length + 1 := numsTo_len d k _
/-- the numbers of a stone, as a list of numbers -/
theorem nums_at (d : Rd) {k n : Nat} (hk : k < n) : ((List.range n).map (nums d))[k]? = some (nums d k) := by
 rw [List.getElem?_map, List.getElem?_range hk]; rfl
/-- how many readings the first numbers of a stone give -/
def part (d : Rd) (k : Nat) (l : List Int) : Nat := (l.map fun x => total (setN d k x)).sum
theorem part_snoc (d : Rd) (k : Nat) (l : List Int) (x : Int) : part d k (l ++ [x]) = part d k l + total (setN d k x) := by
 unfold part; rw [List.map_append, List.sum_append]; simp
theorem part_take {d : Rd} {k i : Nat} {l : List Int} (hi : i < l.length) : part d k (l.take (i + 1)) = part d k (l.take i) + total (setN d k (l.getD i 0)) := by
 rw [List.take_add_one, List.getElem?_eq_getElem hi, ← part_snoc, List.getD_eq_getElem?_getD, List.getElem?_eq_getElem hi]
 rfl
theorem part_le {d : Rd} (h : RdLen d) {k : Nat} (hk : k < d.m.length) (i : Nat) : part d k ((nums d k).take i) ≤ total d := by
 have e : part d k (nums d k) = total d := nums_sum h hk
 have : part d k (nums d k) = part d k ((nums d k).take i) + part d k ((nums d k).drop i) := by
  unfold part
  rw [← List.sum_append, ← List.map_append, List.take_append_drop]
 omega
theorem mem_at {d : Rd} {k i : Nat} (hi : i < (nums d k).length) : ∃ y : Nat, (nums d k).getD i 0 = (y : Int) ∧ y ≤ d.r.length ∧ 0 < tabTo d d.m.length 0 k y ∧ 0 < behT d k y := by
 have h : (nums d k).getD i 0 ∈ nums d k := getD_mem hi
 obtain ⟨y, h1, h2, h3⟩ := mem_nums.1 h
 exact ⟨y, h2, h1, h3⟩
theorem total_small {d : Rd} (h : d.r.length ≤ 9) : total d < 1024 := by
 have h1 := total_lt d
 have h2 : 2 ^ (d.r.length + 1) ≤ 2 ^ 10 := Nat.pow_le_pow_right (by omega) (by omega)
 omega
/-- gaps F that are narrower than f -/
structure NarF (f F : List (Int × Int)) : Prop where
 len : F.length = f.length
 h : ∀ i, i < f.length → (f.getD i (0, 0)).1 ≤ (F.getD i (0, 0)).1 ∧ (F.getD i (0, 0)).1 ≤ (F.getD i (0, 0)).2 ∧ (F.getD i (0, 0)).2 ≤ (f.getD i (0, 0)).2
theorem NarF.start {f : List (Int × Int)} (ho : ∀ s ∈ f, 1 ≤ s.1 ∧ s.1 ≤ s.2 ∧ s.2 ≤ 1000) : NarF f f :=
 ⟨rfl, fun i hi => ⟨Int.le_refl _, (ho _ (getD_mem hi)).2.1, Int.le_refl _⟩⟩
theorem NarF.set {f F : List (Int × Int)} (H : NarF f F) {k : Nat} (hk : k < f.length) {x y : Int} (h : (f.getD k (0, 0)).1 ≤ x ∧ x ≤ y ∧ y ≤ (f.getD k (0, 0)).2) : NarF f (F.set k (x, y)) := by
 refine ⟨by rw [List.length_set]; exact H.len, fun i hi => ?_⟩
 rw [getD_set' (by rw [H.len]; exact hk)]
 by_cases e : i = k
 ·rw [if_pos e, e]; exact h
 ·rw [if_neg e]; exact H.h i hi
theorem NarF.total {d : Rd} {F : List (Int × Int)} (H : NarF d.f F) : total (withF d F) ≤ total d :=
 total_mono fun i => by
  by_cases hi : i < d.f.length
  ·have := H.h i hi; omega
  ·rw [List.getD_eq_getElem?_getD, List.getD_eq_getElem?_getD, List.getElem?_eq_none (by omega), List.getElem?_eq_none (by have := H.len; omega)]
   exact ⟨Int.le_refl _, Int.le_refl _⟩
theorem NarF.ok {f F : List (Int × Int)} (H : NarF f F) (ho : ∀ s ∈ f, 1 ≤ s.1 ∧ s.1 ≤ s.2 ∧ s.2 ≤ 1000) : ∀ s ∈ F, 1 ≤ s.1 ∧ s.1 ≤ s.2 ∧ s.2 ≤ 1000 := fun s hs => by
 obtain ⟨i, hi, rfl⟩ := mem_getAt (0, 0) hs
 have h1 := H.h i (by rw [← H.len]; exact hi)
 have h2 := ho _ (getD_mem (z := (0, 0)) (show i < f.length by rw [← H.len]; exact hi))
 omega
end Go.Proofs.Ytobmhamdkngehaa
