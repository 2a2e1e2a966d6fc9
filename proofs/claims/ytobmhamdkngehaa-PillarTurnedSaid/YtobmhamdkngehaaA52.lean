/-
  Parts of the proof, in the order in which they build: PoK.
-/
import Derived.Test.YtobmhamdkngehaaC52
import Derived.Test.YtobmhamdkngehaaA45
set_option linter.unusedVariables false
set_option linter.unusedSimpArgs false
namespace Go.Proofs.Ytobmhamdkngehaa
open Go.RowKit Go.Shelf
open Lim

def foldI (v n : Int) : Int := (v.tmod n + n).tmod n
theorem foldI_range {v n : Int} (hn : 0 < n) : 0 ≤ foldI v n ∧ foldI v n < n := by
  have h1 := Int.tmod_lt_of_pos v hn
  have h2 := Int.lt_tmod_of_pos v hn
  unfold foldI
  rw [Int.tmod_eq_emod_of_nonneg (by omega)]
  exact ⟨Int.emod_nonneg _ (by omega), Int.emod_lt_of_pos _ (by omega)⟩
set_option maxRecDepth 20000 in
set_option maxHeartbeats 1000000 in
/-- the same number each time -/
theorem fold_is {v n : Int} (w : World) (hn : 0 < n ∧ n ≤ 1000000) : Calls Try.prog 33 #[.int .i64 v, .int .i64 n] w fun e w' => e = .returned (.int .i64 (foldI v n)) ∧ w' = w := by
  have hfr := foldI_range (v := v) hn.1
  unfold foldI at hfr ⊢
  have d1 : decide (n ≤ 0) = false := by simp; omega
  have hn0 : ¬ n = 0 := by omega
  obtain ⟨r1, hr1⟩ : ∃ r1, v.tmod n = r1 := ⟨_, rfl⟩
  rw [hr1] at hfr ⊢
  have hr1r : -n < r1 ∧ r1 < n := by
    rw [← hr1]
    have h1 := Int.tmod_lt_of_pos v hn.1
    have h2 := Int.lt_tmod_of_pos v hn.1
    omega
  have e0 : IntKind.i64.wrap r1 = r1 := IntWalk.i64_in _ (by omega)
  have e1 : IntKind.i64.wrap (r1 + n) = r1 + n := IntWalk.i64_in _ (by omega)
  obtain ⟨r2, hr2⟩ : ∃ r2, (r1 + n).tmod n = r2 := ⟨_, rfl⟩
  rw [hr2] at hfr ⊢
  have e2 : IntKind.i64.wrap r2 = r2 := IntWalk.i64_in _ (by omega)
  clear hfr hr1r hn
  go_enter Try.func33, Try.ntmps33
  go_wp2
  go_ret
  exact ⟨rfl, rfl⟩
structure TurTo (p : Pf) (f : Int) (k : Nat) (A B C : List Int) : Prop where
  la : A.length = p.n
  lb : B.length = p.n
  lc : C.length = p.n
  h : ∀ c, c < k → A.getD (p.n - 1 - c) 0 = p.a (p.n - 1) - p.a c ∧ B.getD c 0 = p.a c + f ∧ C.getD c 0 = 2 * p.a c
theorem TurTo.set {p : Pf} {f : Int} {k : Nat} {A B C : List Int} (H : TurTo p f k A B C) (hk : k < p.n) {x y z : Int} (hx : x = p.a (p.n - 1) - p.a k) (hy : y = p.a k + f) (hz : z = 2 * p.a k) : TurTo p f (k + 1) (A.set (p.n - 1 - k) x) (B.set k y) (C.set k z) := by
  have h1 := H.la
  have h2 := H.lb
  have h3 := H.lc
  refine ⟨by rw [List.length_set]; exact h1, by rw [List.length_set]; exact h2, by rw [List.length_set]; exact h3, fun c hc => ?_⟩
  rw [lev_get, lev_get, lev_get]
  by_cases e : k = c
  · subst e
    rw [if_pos ⟨rfl, by omega⟩, if_pos ⟨rfl, by omega⟩, if_pos ⟨rfl, by omega⟩]
    exact ⟨hx, hy, hz⟩
  · rw [if_neg (fun h => e (by omega)), if_neg (fun h => e h.1), if_neg (fun h => e h.1)]
    exact H.h c (by omega)
def bendP (p : Pf) (a b : Int) : Pf := { p with lo := a, hi := b }
theorem bendP_ok {p : Pf} (hp : p.Ok) {a b : Int} (h : 0 ≤ a ∧ a ≤ b ∧ b ≤ 1000) : (bendP p a b).Ok := ⟨hp.n2, hp.n40, hp.gn, hp.ats, hp.gr, hp.tall, h, hp.up⟩
def backP (p : Pf) (A : List Int) : Pf := { p with ats := A, gr := p.gr.reverse }
def farP (p : Pf) (B : List Int) : Pf := { p with ats := B }
def wideP (p : Pf) (C : List Int) (a b : Int) : Pf := { p with ats := C, lo := a, hi := b }
theorem TurTo.back {p : Pf} (hp : p.Ok) {f : Int} {A B C : List Int} (H : TurTo p f p.n A B C) : IsBack p (backP p A) := by
  have hgn := hp.gn
  refine ⟨H.la, List.length_reverse, fun y hy => ?_, fun y hy => ?_, rfl, rfl, rfl⟩
  · have := (H.h (p.n - 1 - y) (by omega)).1
    rw [show p.n - 1 - (p.n - 1 - y) = y by omega] at this
    exact this
  · show p.gr.reverse.getD y (0, 0) = p.gr.getD (p.n - 1 - y) (0, 0)
    rw [List.getD_eq_getElem?_getD, List.getD_eq_getElem?_getD, List.getElem?_reverse (by omega), hgn]
theorem TurTo.far {p : Pf} {f : Int} {A B C : List Int} (H : TurTo p f p.n A B C) : IsFar p (farP p B) f := ⟨H.lb, rfl, fun y hy => (H.h y hy).2.1, rfl, rfl, rfl⟩
theorem TurTo.wide {p : Pf} {f : Int} {A B C : List Int} (H : TurTo p f p.n A B C) {a b : Int} (ha : 4 * a = p.lo) (hb : 4 * b = p.hi) : IsWide p (wideP p C a b) := ⟨H.lc, rfl, fun y hy => (H.h y hy).2.2, rfl, ha, hb⟩
/-- x is p looked at otherwise: u and v there are i and j here -/
structure LikeT (p x : Pf) (k i j u v : Nat) : Prop where
  ok : x.Ok
  al : x.ats.length = p.ats.length
  gl : x.gr.length = p.gr.length
  lt : u < x.n ∧ v < x.n ∧ u ≠ v
  sees : ∀ hh bh, x.sees hh bh u v = p.sees hh bh i j
  few : ∀ L M, IsBest p.n p.sure (-1) (p.n - 1) 0 L → IsBest x.n x.sure (-1) (x.n - 1) 0 M → M.length = L.length ∧ (k ≠ 0 → M = L)
theorem like_back {p x : Pf} (hp : p.Ok) (h : IsBack p x) {i j : Nat} (hi : i < p.n) (hj : j < p.n) (hij : i ≠ j) : LikeT p x 0 i j (p.n - 1 - i) (p.n - 1 - j) :=
  ⟨h.ok hp, h.n, h.gl, by have := h.n; omega, fun hh bh => h.sees hh bh hi hj, fun L M hL hM => ⟨h.fewest hp hL hM, fun h => absurd rfl h⟩⟩
theorem like_far {p x : Pf} {f : Int} (hp : p.Ok) (h : IsFar p x f) (hf : 0 ≤ f) (ha : ∀ k, k < p.n → p.a k + f ≤ 20000) {i j : Nat} (hi : i < p.n) (hj : j < p.n) (hij : i ≠ j) : LikeT p x 1 i j i j :=
  ⟨h.ok hp hf ha, h.n, by rw [h.gr], by have := h.n; omega, fun hh bh => h.sees hh bh hi hj, fun L M hL hM => by
    have e := best_same hp h.n (fun a b h1 h2 => h.sees false true h1 h2) hL hM
    exact ⟨by rw [e], fun _ => e⟩⟩
theorem like_wide {p x : Pf} (hp : p.Ok) (h : IsWide p x) (ha : ∀ k, k < p.n → 2 * p.a k ≤ 20000) {i j : Nat} (hi : i < p.n) (hj : j < p.n) (hij : i ≠ j) : LikeT p x 2 i j i j :=
  ⟨h.ok hp ha, h.n, by rw [h.gr], by have := h.n; omega, fun hh bh => h.sees hh bh hi hj, fun L M hL hM => by
    have e := best_same hp h.n (fun a b h1 h2 => h.sees false true h1 h2) hL hM
    exact ⟨by rw [e], fun _ => e⟩⟩
/-- the part of a bend that four divides -/
theorem four_part {x : Int} (h : 0 ≤ x) : x - x.tmod 4 = 4 * (x.tdiv 4) ∧ 0 ≤ x.tdiv 4 ∧ 0 ≤ x.tmod 4 ∧ x.tmod 4 ≤ 3 := by
  rw [Int.tmod_eq_emod_of_nonneg h, Int.tdiv_eq_ediv_of_nonneg h]
  omega
end Go.Proofs.Ytobmhamdkngehaa
