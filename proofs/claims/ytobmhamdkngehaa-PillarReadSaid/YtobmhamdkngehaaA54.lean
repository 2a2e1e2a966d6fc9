/-
  Parts of the proof, in the order in which they build: PoM.
-/
import Derived.Test.YtobmhamdkngehaaC54
import Derived.Test.YtobmhamdkngehaaA45
set_option linter.unusedVariables false
set_option linter.unusedSimpArgs false
namespace Go.Proofs.Ytobmhamdkngehaa
open Go.RowKit Go.Shelf
open Lim

theorem best_len {p : Pf} (hp : p.Ok) {L : List Nat} (hL : IsBest p.n p.sure (-1) (p.n - 1) 0 L) : 2 ≤ L.length ∧ L.length ≤ 40 := by
  have h1 := hL.ch.len
  have h2 := hL.ch.at
  have h3 := hL.ch.pos
  have n2 := hp.n2
  have n40 := hp.n40
  refine ⟨?_, by omega⟩
  apply Classical.byContradiction
  intro hc
  have : L.length - 1 = 0 := by omega
  rw [this] at h2
  omega
theorem inLev_of {l : List Int} (h : ∀ j, j < l.length → 0 ≤ l.getD j 0 ∧ l.getD j 0 ≤ 40) : inLev l = true := by
  unfold inLev
  rw [List.all_eq_true]
  intro x hx
  obtain ⟨j, hj, rfl⟩ := List.getElem_of_mem hx
  have := h j hj
  rw [List.getD_eq_getElem?_getD, List.getElem?_eq_getElem hj] at this
  exact inR_iff.2 this
/-- the levels that are returned prove the fewest pillars -/
theorem prov_lev {p : Pf} (hp : p.Ok) {l : List Int} {L : List Nat} (hl : LevTo p.n p.sure p.n l) (hL : IsBest p.n p.sure (-1) (p.n - 1) 0 L) {w w' : World} {e : Ending} (h : ProvAns w p l e w') :
    e = .returned (.tuple #[.int .i64 ((L.length : Nat) : Int), .int .i64 0]) ∧ Below w.heap.size w w' := by
  obtain ⟨hb, r, er, he, h⟩ := h
  have n2 := hp.n2
  have hll := best_len hp hL
  have hin : inLev l = true := inLev_of (fun j hj => hl.top j (by rw [← hl.len]; exact hj))
  have hpr : Proof p.n p.sure l := fun i j hij hj hS => hl.done i j (by omega) hij hj hS
  rcases h with ⟨h, -⟩ | ⟨-, h, -⟩ | ⟨-, -, h, -⟩ | ⟨-, -, -, h, -⟩ | ⟨-, -, -, -, hr, h0⟩
  · exact absurd hp.err h
  · exact absurd hl.len h
  · rw [hin] at h; cases h
  · exact absurd hpr h
  · have := hl.best rfl (by omega) hL hll.2
    rw [he, hr, h0, this]
    exact ⟨rfl, hb⟩
/-- levels that are tried prove no more -/
theorem prov_try {p : Pf} (hp : p.Ok) {l : List Int} {L : List Nat} (hlen : l.length = p.n) (hin : inLev l = true) (hL : IsBest p.n p.sure (-1) (p.n - 1) 0 L) {w w' : World} {e : Ending} (h : ProvAns w p l e w') :
    ∃ r er : Int, e = .returned (.tuple #[.int .i64 r, .int .i64 er]) ∧ Below w.heap.size w w' ∧ ((er = 0 ∧ r ≤ ((L.length : Nat) : Int)) ∨ er = 9) := by
  obtain ⟨hb, r, er, he, h⟩ := h
  refine ⟨r, er, he, hb, ?_⟩
  rcases h with ⟨h, -⟩ | ⟨-, h, -⟩ | ⟨-, -, h, -⟩ | ⟨-, -, -, -, -, h⟩ | ⟨-, -, -, hpr, hr, h0⟩
  · exact absurd hp.err h
  · exact absurd hlen h
  · rw [hin] at h; cases h
  · exact .inr h
  · have := Proof.chain hpr hL.ch
    exact .inl ⟨h0, by omega⟩
/-- pillars that are tried, and hold, are no fewer -/
theorem hold_try {p : Pf} (hp : p.Ok) {xs : List Int} {L : List Nat} (ha : inAll p.n xs = true) (hL : IsBest p.n p.sure (-1) (p.n - 1) 0 L) (h : holdsP p xs = true) : L.length ≤ xs.length := by
  obtain ⟨M, rfl, hM⟩ := holds_ch hp ha h
  rw [List.length_map]
  rcases hL.le M hM with h | h <;> omega
structure MineTo (n i : Nat) (A B : List Int) : Prop where
  la : A.length ≤ i
  a : ∀ x ∈ A, 0 ≤ x ∧ x < n
  lb : B.length = i
  b : ∀ j, j < i → 0 ≤ B.getD j 0 ∧ B.getD j 0 ≤ 40
theorem MineTo.inAll {n i : Nat} {A B : List Int} (H : MineTo n i A B) : inAll n A = true := by
  unfold Go.Proofs.Ytobmhamdkngehaa.inAll
  rw [List.all_eq_true]
  intro x hx
  have := H.a x hx
  rw [inR_iff]
  omega
theorem MineTo.inLev {n i : Nat} {A B : List Int} (H : MineTo n i A B) : inLev B = true := inLev_of (fun j hj => H.b j (by rw [← H.lb]; exact hj))
theorem MineTo.mine {n i : Nat} {A B : List Int} (H : MineTo n i A B) (hi : i < n) (hl : A.length < i + 1) : (∀ x ∈ A ++ [(i : Int)], 0 ≤ x ∧ x < n) := fun x hx => by
  rcases List.mem_append.1 hx with h | h
  · exact H.a x h
  · rcases List.mem_singleton.1 h with rfl; omega
theorem lab_snoc {i : Nat} {B : List Int} {y : Int} (hl : B.length = i) (hb : ∀ j, j < i → 0 ≤ B.getD j 0 ∧ B.getD j 0 ≤ 40) (hy : 0 ≤ y ∧ y ≤ 40) : (B ++ [y]).length = i + 1 ∧ ∀ j, j < i + 1 → 0 ≤ (B ++ [y]).getD j 0 ∧ (B ++ [y]).getD j 0 ≤ 40 := by
  refine ⟨by simp [hl], fun j hj => ?_⟩
  rw [getD_snoc, hl]
  by_cases e : j < i
  · rw [if_pos e]; exact hb j e
  · rw [if_neg e, if_pos (by omega)]; exact hy
theorem lab_set {i k : Nat} {B : List Int} {y : Int} (hl : B.length = i) (hb : ∀ j, j < i → 0 ≤ B.getD j 0 ∧ B.getD j 0 ≤ 40) (hy : 0 ≤ y ∧ y ≤ 40) : (B.set k y).length = i ∧ ∀ j, j < i → 0 ≤ (B.set k y).getD j 0 ∧ (B.set k y).getD j 0 ≤ 40 := by
  refine ⟨by rw [List.length_set]; exact hl, fun j hj => ?_⟩
  rw [lev_get]
  split
  · exact hy
  · exact hb j hj
/-- a number is appended to a list -/
theorem Mem.push {w : World} {S d c : Nat} {R : List Row} {X : List (Nat × Obj)} {W W' : World} {Q1 Q2 : List Row} {v v' : Value} {A : List Int} {x : Int} (H : Mem w S d c R (Q1 ++ rwI v A.length A :: Q2) X W) (ho : W'.ownsRow S 3 1 v' (A.length + 1) (ints A ++ [.int .i64 x])) (hg : W.grownBy W' v.ownBlock) (hat : v'.ownBlock = v.ownBlock ∨ v'.ownBlock = some W.heap.size) :
    Mem w S d c R (Q1 ++ rwI v' (A ++ [x]).length (A ++ [x]) :: Q2) X W' :=
  H.putQ (r := rwI v A.length A) (r' := rwI v' (A ++ [x]).length (A ++ [x])) hg (by
    show W'.ownsRow S 3 1 v' (A ++ [x]).length (ints (A ++ [x]))
    rw [show (A ++ [x]).length = A.length + 1 by simp, show ints (A ++ [x]) = ints A ++ [.int .i64 x] by simp [ints]]
    exact ho) (hat.imp id (fun h => ⟨_, h, Nat.le_refl _⟩))
end Go.Proofs.Ytobmhamdkngehaa
