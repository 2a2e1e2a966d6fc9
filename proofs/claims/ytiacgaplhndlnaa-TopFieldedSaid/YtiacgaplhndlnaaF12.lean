/-
  Parts of the proof, in the order in which they build: EvF.
-/
import Derived.RangeFuncNested
import Derived.Carry
import Derived.Test.YtiacgaplhndlnaaF5
import Derived.Test.YtiacgaplhndlnaaF8
import Derived.Test.YtiacgaplhndlnaaF10
import Derived.Test.YtiacgaplhndlnaaF11
import Derived.Test.YtiacgaplhndlnaaF7
set_option linter.unusedVariables false
set_option linter.unusedSimpArgs false
namespace Go.Proofs.Ytiacgaplhndlnaa
open Go.RowKit Go.Shelf
open Lim

attribute [local go_sem] Oper.semAt_some

theorem zeroWorkE : Try.zeroCells157 = (.int .i64 0 :: .slice none 0 0 :: .slice none 0 0 :: .int .i64 0 :: List.replicate 100 (Value.bool false)).toArray := by kernel_rfl
def workCells (v0 v1 v2 v3 : Value) : Array Value := (v0 :: v1 :: v2 :: v3 :: List.replicate 100 (Value.bool false)).toArray
theorem workChain (v0 v1 v2 : Value) : ((Try.zeroCells157.setIfInBounds 0 v0).setIfInBounds 1 v1).setIfInBounds 2 v2 = workCells v0 v1 v2 (.int .i64 0) := by
  rw [zeroWorkE]; simp only [List.setIfInBounds_toArray, List.set_cons_zero, List.set_cons_succ, workCells]
/-- n numbers in a block of their own, which are written -/
structure RowC (W : World) (g n : Nat) (R : Nat → Int) : Prop where
  c : ∀ j, j < n → W.cell? ⟨g, j, none⟩ = some (.int .i64 (R j))
  f : ∀ j, j < n → W.frozen? ⟨g, j, none⟩ = false
  o : ∃ cur, W.heap[g]? = some (.cells cur 3 (0, 0)) ∧ cur.size = n
/-- while opened lays its memory, in whatever order -/
structure OpP (w : World) (bm : Nat) (wd : Int) (oa : Option Addr) (n oc : Nat) (done : Nat → Bool) (x5 x16 x20 x21 x22 : Value) (W : World) : Prop where
  be : Below w.heap.size w W ∧ w.heap.size < W.heap.size
  c : W.cell? ⟨bm, 0, none⟩ = some (.int .i64 wd) ∧ W.cell? ⟨bm, 1, none⟩ = some (.slice oa n oc)
  d1 : done 1 = true → ∃ q k, x16 = .slice (some ⟨q, 0, none⟩) 1 k ∧ (done 9 = false → W.cell? ⟨q, 0, none⟩ = some (.int .i64 (-1)))
  d5 : done 5 = true → ∃ g, x20 = .slice (some ⟨g, 0, none⟩) n n ∧ w.heap.size < g ∧ RowC W g n (fun _ => -1)
  d6 : done 6 = true → done 5 = true ∧ x21 = .agg (workCells (.int .i64 wd) (.slice oa n oc) x20 (.int .i64 0))
  d7 : done 7 = true → done 6 = true ∧ ∃ b, x22 = .pointer (some ⟨b, 0, none⟩) ∧ w.heap.size < b ∧ W.heap[b]? = some (.cells (workCells (.int .i64 wd) (.slice oa n oc) x20 (.int .i64 0)) 157 (0, 0))
  d8 : done 8 = true → ∃ q u, x5 = .pointer (some ⟨q, 0, none⟩) ∧ w.heap.size < q ∧ W.heap[q]? = some (.cells #[u] 98 (0, 0)) ∧ (done 9 = true → u = x22)
  d9 : done 9 = true → done 8 = true ∧ done 7 = true ∧ done 1 = true
section
variable {w : World} {bm : Nat} {wd : Int} {oa : Option Addr} {n oc : Nat} {done : Nat → Bool} {x5 x16 x20 x21 x22 : Value} {W W' : World}
theorem RowC.grow {g : Nat} {R : Nat → Int} (h : RowC W g n R) (hb : Below W.heap.size W W') : RowC W' g n R :=
  ⟨fun j hj => hb.on (h.c j hj), fun j hj => frozen_on hb (h.c j hj) (h.f j hj), let ⟨cur, h1, h2⟩ := h.o; ⟨cur, (hb.block g (Array.getElem?_eq_some_iff.1 h1).1).trans h1, h2⟩⟩
theorem RpM.row {x : Int} {g : Nat} (h : RpM w g n n x W) : RowC W g n (fun _ => x) := by
  refine ⟨fun j hj => by rw [h.c j hj, if_pos hj], fun j _ => h.f j, ?_⟩
  obtain ⟨xs, h1, h2⟩ := h.ow
  rcases h2 with ⟨h3, -⟩ | ⟨g', cap, cur, h3, -, h4, -, -, h5, -⟩
  · cases h3
  · cases h3
    exact ⟨cur, h4, by omega⟩
/-- one more operation is done -/
def dn (done : Nat → Bool) (i : Nat) : Nat → Bool := fun j => if j = i then true else done j
theorem dn_ne {done : Nat → Bool} {i j : Nat} (h : j ≠ i) (hd : dn done i j = true) : done j = true := by unfold dn at hd; rwa [if_neg h] at hd
theorem dn_on {done : Nat → Bool} {i j : Nat} (hd : done j = true) : dn done i j = true := by unfold dn; split <;> simp [hd]
theorem dn_no {done : Nat → Bool} {i j : Nat} (h : j ≠ i) (hd : dn done i j = false) : done j = false := by unfold dn at hd; rwa [if_neg h] at hd
theorem dn_me (done : Nat → Bool) (i : Nat) : dn done i i = true := by simp [dn]
theorem OpP.grow (H : OpP w bm wd oa n oc done x5 x16 x20 x21 x22 W) (hb : Below W.heap.size W W') : OpP w bm wd oa n oc done x5 x16 x20 x21 x22 W' :=
  ⟨⟨H.be.1.trans (hb.mono H.be.1.size), Nat.lt_of_lt_of_le H.be.2 hb.size⟩, ⟨hb.on H.c.1, hb.on H.c.2⟩, fun h => let ⟨q, k, h1, h2⟩ := H.d1 h; ⟨q, k, h1, fun h9 => hb.on (h2 h9)⟩,
   fun h => let ⟨g, h1, h2, h3⟩ := H.d5 h; ⟨g, h1, h2, h3.grow hb⟩, H.d6,
   fun h => let ⟨h1, b, h2, h3, h4⟩ := H.d7 h; ⟨h1, b, h2, h3, (hb.block b (Array.getElem?_eq_some_iff.1 h4).1).trans h4⟩,
   fun h => let ⟨q, u, h1, h2, h3, h4⟩ := H.d8 h; ⟨q, u, h1, h2, (hb.block q (Array.getElem?_eq_some_iff.1 h3).1).trans h3, h4⟩, H.d9⟩
theorem OpP.did (H : OpP w bm wd oa n oc done x5 x16 x20 x21 x22 W) (hd : done 1 = false) {q k : Nat} (hq : W.cell? ⟨q, 0, none⟩ = some (.int .i64 (-1))) : OpP w bm wd oa n oc (dn done 1) x5 (.slice (some ⟨q, 0, none⟩) 1 k) x20 x21 x22 W :=
  ⟨H.be, H.c, fun _ => ⟨q, k, rfl, fun _ => hq⟩, fun h => H.d5 (dn_ne (by decide) h), fun h => let ⟨h1, h2⟩ := H.d6 (dn_ne (by decide) h); ⟨dn_on h1, h2⟩,
   fun h => let ⟨h1, h2⟩ := H.d7 (dn_ne (by decide) h); ⟨dn_on h1, h2⟩, fun h => let ⟨q, u, h1, h2, h3, h4⟩ := H.d8 (dn_ne (by decide) h); ⟨q, u, h1, h2, h3, fun h => h4 (dn_ne (by decide) h)⟩,
   fun h => (by have := (H.d9 (dn_ne (by decide) h)).2.2; rw [hd] at this; cases this)⟩
theorem OpP.rep (H : OpP w bm wd oa n oc done x5 x16 x20 x21 x22 W) (hd : done 5 = false) (g : Nat) (hg : w.heap.size < g) (hR : RowC W g n (fun _ => -1)) : OpP w bm wd oa n oc (dn done 5) x5 x16 (.slice (some ⟨g, 0, none⟩) n n) x21 x22 W :=
  ⟨H.be, H.c, fun h => let ⟨q, k, h1, h2⟩ := H.d1 (dn_ne (by decide) h); ⟨q, k, h1, fun h9 => h2 (dn_no (by decide) h9)⟩, fun _ => ⟨g, rfl, hg, hR⟩, fun h => (by have := (H.d6 (dn_ne (by decide) h)).1; rw [hd] at this; cases this),
   fun h => (by have := (H.d6 (H.d7 (dn_ne (by decide) h)).1).1; rw [hd] at this; cases this),
   fun h => let ⟨q, u, h1, h2, h3, h4⟩ := H.d8 (dn_ne (by decide) h); ⟨q, u, h1, h2, h3, fun h => h4 (dn_ne (by decide) h)⟩,
   fun h => let ⟨h1, h2, h3⟩ := H.d9 (dn_ne (by decide) h); ⟨dn_on h1, dn_on h2, dn_on h3⟩⟩
theorem OpP.built (H : OpP w bm wd oa n oc done x5 x16 x20 x21 x22 W) (h5 : done 5 = true) (hd : done 6 = false) : OpP w bm wd oa n oc (dn done 6) x5 x16 x20 (.agg (workCells (.int .i64 wd) (.slice oa n oc) x20 (.int .i64 0))) x22 W :=
  ⟨H.be, H.c, fun h => let ⟨q, k, h1, h2⟩ := H.d1 (dn_ne (by decide) h); ⟨q, k, h1, fun h9 => h2 (dn_no (by decide) h9)⟩, fun h => H.d5 (dn_ne (by decide) h), fun _ => ⟨dn_on h5, rfl⟩,
   fun h => (by have := (H.d7 (dn_ne (by decide) h)).1; rw [hd] at this; cases this),
   fun h => let ⟨q, u, h1, h2, h3, h4⟩ := H.d8 (dn_ne (by decide) h); ⟨q, u, h1, h2, h3, fun h => h4 (dn_ne (by decide) h)⟩,
   fun h => let ⟨h1, h2, h3⟩ := H.d9 (dn_ne (by decide) h); ⟨dn_on h1, dn_on h2, dn_on h3⟩⟩
theorem OpP.boxed (H0 : OpP w bm wd oa n oc done x5 x16 x20 x21 x22 W) (h6 : done 6 = true) (hd : done 7 = false) :
    OpP w bm wd oa n oc (dn done 7) x5 x16 x20 x21 (.pointer (some ⟨W.heap.size, 0, none⟩)) (W.alloc (.cells (workCells (.int .i64 wd) (.slice oa n oc) x20 (.int .i64 0)) 157)) := by
  have H := H0.grow ((Below.refl _ W).alloc (Nat.le_refl _) (.cells (workCells (.int .i64 wd) (.slice oa n oc) x20 (.int .i64 0)) 157))
  exact ⟨H.be, H.c, fun h => let ⟨q, k, h1, h2⟩ := H.d1 (dn_ne (by decide) h); ⟨q, k, h1, fun h9 => h2 (dn_no (by decide) h9)⟩, fun h => H.d5 (dn_ne (by decide) h), fun h => let ⟨h1, h2⟩ := H.d6 (dn_ne (by decide) h); ⟨dn_on h1, h2⟩,
   fun _ => ⟨dn_on h6, _, rfl, H0.be.2, heap_alloc_new _ _⟩,
   fun h => let ⟨q, u, h1, h2, h3, h4⟩ := H.d8 (dn_ne (by decide) h); ⟨q, u, h1, h2, h3, fun h => (by have := (H.d9 (dn_ne (by decide) h)).2.1; rw [hd] at this; cases this)⟩,
   fun h => let ⟨h1, h2, h3⟩ := H.d9 (dn_ne (by decide) h); ⟨dn_on h1, dn_on h2, dn_on h3⟩⟩
theorem OpP.laid (H0 : OpP w bm wd oa n oc done x5 x16 x20 x21 x22 W) (hd : done 8 = false) :
    OpP w bm wd oa n oc (dn done 8) (.pointer (some ⟨W.heap.size, 0, none⟩)) x16 x20 x21 x22 (W.alloc (.cells #[.pointer none] 98)) := by
  have H := H0.grow ((Below.refl _ W).alloc (Nat.le_refl _) (.cells #[.pointer none] 98))
  exact ⟨H.be, H.c, fun h => let ⟨q, k, h1, h2⟩ := H.d1 (dn_ne (by decide) h); ⟨q, k, h1, fun h9 => h2 (dn_no (by decide) h9)⟩, fun h => H.d5 (dn_ne (by decide) h), fun h => let ⟨h1, h2⟩ := H.d6 (dn_ne (by decide) h); ⟨dn_on h1, h2⟩,
   fun h => let ⟨h1, h2⟩ := H.d7 (dn_ne (by decide) h); ⟨dn_on h1, h2⟩,
   fun _ => ⟨_, _, rfl, H0.be.2, heap_alloc_new _ _, fun h => (by have := (H.d9 (dn_ne (by decide) h)).1; rw [hd] at this; cases this)⟩,
   fun h => (by have := (H.d9 (dn_ne (by decide) h)).1; rw [hd] at this; cases this)⟩
theorem heap_set_one {w : World} {g : Nat} {u : Value} {e : Nat} (v : Value) (h : w.heap[g]? = some (.cells #[u] e (0, 0))) : (w.setCell ⟨g, 0, none⟩ v).heap[g]? = some (.cells #[v] e (0, 0)) := by
  have := heap_setCell_self (o := 0) v h
  simpa using this
theorem RowC.set {g k j : Nat} {R : Nat → Int} (h : RowC W g n R) (v : Value) (hk : k ≠ g) : RowC (W.setCell ⟨k, j, none⟩ v) g n R :=
  ⟨fun i hi => by rw [setCell_far _ _ hk]; exact h.c i hi, fun i hi => by rw [World.frozen?_setCell]; exact h.f i hi, let ⟨cur, h1, h2⟩ := h.o; ⟨cur, (heap_set_ne v (Ne.symm hk)).trans h1, h2⟩⟩
theorem OpP.stored (H : OpP w bm wd oa n oc done x5 x16 x20 x21 x22 W) (hbm : bm = w.heap.size) (hd : done 9 = false) (h8 : done 8 = true) (h7 : done 7 = true) (h1 : done 1 = true) {q : Nat} {u : Value} (ho : W.heap[q]? = some (.cells #[u] 98 (0, 0))) (hq : w.heap.size < q) (hx : x5 = .pointer (some ⟨q, 0, none⟩)) :
    OpP w bm wd oa n oc (dn done 9) x5 x16 x20 x21 x22 (W.setCell ⟨q, 0, none⟩ x22) := by
  have hne : ∀ {k : Nat} {c : Array Value} {e : Nat}, W.heap[k]? = some (.cells c e (0, 0)) → e ≠ 98 → q ≠ k := fun h he e => by subst e; rw [ho] at h; cases h; exact he rfl
  obtain ⟨q1, k1, a1, -⟩ := H.d1 h1
  refine ⟨⟨H.be.1.setCell (p := ⟨q, 0, none⟩) (by show w.heap.size ≤ q; omega) _, by simpa [World.setCell] using H.be.2⟩, ⟨by rw [setCell_far _ _ (by omega)]; exact H.c.1, by rw [setCell_far _ _ (by omega)]; exact H.c.2⟩,
    fun _ => ⟨q1, k1, a1, fun h => by simp [dn] at h⟩, fun h => ?_, fun h => let ⟨h1, h2⟩ := H.d6 (dn_ne (by decide) h); ⟨dn_on h1, h2⟩, fun h => ?_, fun _ => ⟨q, x22, hx, hq, heap_set_one _ ho, fun _ => rfl⟩, fun _ => ⟨dn_on h8, dn_on h7, dn_on h1⟩⟩
  · obtain ⟨g, b1, b2, b3⟩ := H.d5 (dn_ne (by decide) h)
    obtain ⟨cur, c1, c2⟩ := b3.o
    exact ⟨g, b1, b2, b3.set _ (hne c1 (by decide))⟩
  · obtain ⟨b0, b, b1, b2, b3⟩ := H.d7 (dn_ne (by decide) h)
    exact ⟨dn_on b0, b, b1, b2, (heap_set_ne _ (Ne.symm (hne b3 (by decide)))).trans b3⟩
end
/-- the marks of a search, in the work's cells -/
def MetE (W : World) (b : Nat) (M : Nat → Bool) : Prop := ∀ k, k < 100 → W.cell? ⟨b, 4 + k, none⟩ = some (.bool (M k)) ∧ W.frozen? ⟨b, 4 + k, none⟩ = false
/-- how many are not numbered yet -/
def unN (R : Nat → Int) : Nat → Nat
  | 0 => 0
  | n + 1 => unN R n + if R n = -1 then 1 else 0
theorem unN_far {R : Nat → Int} {k : Nat} {v : Int} : ∀ n, n ≤ k → unN (upd R k v) n = unN R n
  | 0, _ => rfl
  | n + 1, h => by rw [unN, unN, unN_far n (by omega), upd_ne _ _ (by omega)]
theorem unN_upd {R : Nat → Int} {k : Nat} {v : Int} (hk : R k = -1) (hv : v ≠ -1) : ∀ n, k < n → unN (upd R k v) n + 1 = unN R n
  | 0, h => absurd h (Nat.not_lt_zero _)
  | n + 1, h => by
    by_cases e : k = n
    · subst e
      rw [unN, unN, unN_far k (Nat.le_refl _), upd_same, if_neg hv, if_pos hk]
    · rw [unN, unN, upd_ne _ _ (by omega)]
      have := unN_upd hk hv n (by omega)
      omega
theorem unN_le (R : Nat → Int) : ∀ n, unN R n ≤ n
  | 0 => Nat.le_refl _
  | n + 1 => by have := unN_le R n; rw [unN]; split <;> omega
/-- what lies in memory while opened numbers regions -/
structure OpM (w : World) (m : Mp) (oa : Option Addr) (oc bm bw b rb S : Nat) (R : Nat → Int) (c : Nat) (W : World) : Prop where
  be : Below w.heap.size w W
  lt : bm = w.heap.size ∧ bm < b ∧ bm < rb ∧ bm < bw ∧ b ≠ rb ∧ b ≠ bw ∧ rb ≠ bw ∧ b < S ∧ rb < S ∧ bw < S ∧ S ≤ W.heap.size
  m0 : W.cell? ⟨bm, 0, none⟩ = some (.int .i64 m.wd)
  m1 : W.cell? ⟨bm, 1, none⟩ = some (.slice oa m.n oc)
  w0 : W.cell? ⟨bw, 0, none⟩ = some (.pointer (some ⟨b, 0, none⟩))
  b0 : W.cell? ⟨b, 0, none⟩ = some (.int .i64 m.wd)
  b1 : W.cell? ⟨b, 1, none⟩ = some (.slice oa m.n oc)
  b2 : W.cell? ⟨b, 2, none⟩ = some (.slice (some ⟨rb, 0, none⟩) m.n m.n)
  b3 : W.cell? ⟨b, 3, none⟩ = some (.int .i64 c)
  f3 : W.frozen? ⟨b, 3, none⟩ = false
  mt : MetE W b (fun _ => false)
  row : RowC W rb m.n R
section
variable {w : World} {m : Mp} {oa : Option Addr} {oc bm bw b rb S : Nat} {R : Nat → Int} {c : Nat} {W W' : World} {T : Nat → Prop}
theorem MetE.sep {M : Nat → Bool} (h : MetE W b M) (hs : Sep T W W') (hT : ¬ T b) : MetE W' b M := fun k hk => ⟨hs.cell (h k hk).1 hT, hs.frozen (h k hk).1 hT (h k hk).2⟩
theorem MetE.steady {B : Nat} {M : Nat → Bool} (h : MetE W b M) (hs : Steady B W W') : MetE W' b M := fun k hk => ⟨hs.cell (h k hk).1, (hs.frozen (h k hk).1).trans (h k hk).2⟩
theorem RowC.sep {n : Nat} (h : RowC W rb n R) (hs : Sep T W W') (hT : ¬ T rb) : RowC W' rb n R :=
  ⟨fun j hj => hs.cell (h.c j hj) hT, fun j hj => hs.frozen (h.c j hj) hT (h.f j hj), let ⟨cur, h1, h2⟩ := h.o; ⟨cur, hs.heap h1 hT, h2⟩⟩
theorem RowC.steady {n B : Nat} (h : RowC W rb n R) (hs : Steady B W W') : RowC W' rb n R :=
  ⟨fun j hj => hs.cell (h.c j hj), fun j hj => (hs.frozen (h.c j hj)).trans (h.f j hj), let ⟨cur, h1, h2⟩ := h.o; ⟨cur, hs.block h1, h2⟩⟩
theorem RowC.put {n k : Nat} (h : RowC W rb n R) (hk : k < n) (v : Int) : RowC (W.setCell ⟨rb, k, none⟩ (.int .i64 v)) rb n (upd R k v) := by
  refine ⟨fun j hj => ?_, fun j hj => by rw [World.frozen?_setCell]; exact h.f j hj, let ⟨cur, h1, h2⟩ := h.o; ⟨_, heap_setCell_self _ h1, by simpa using h2⟩⟩
  by_cases e : j = k
  · subst e; rw [upd_same]; exact setCell_same _ _ (h.c j hj)
  · rw [upd_ne _ _ e, setCell_off _ _ (Ne.symm e)]; exact h.c j hj
theorem OpM.sep (h : OpM w m oa oc bm bw b rb S R c W) (hs : Sep T W W') (hT : ∀ k, T k → S ≤ k) : OpM w m oa oc bm bw b rb S R c W' := by
  obtain ⟨l1, l2, l3, l4, l5, l6, l7, l8, l9, l10, l11⟩ := h.lt
  have n1 : ¬ T bm := fun h => by have := hT _ h; omega
  have n2 : ¬ T b := fun h => by have := hT _ h; omega
  have n3 : ¬ T rb := fun h => by have := hT _ h; omega
  have n4 : ¬ T bw := fun h => by have := hT _ h; omega
  exact ⟨h.be.trans (hs.below (by omega) (fun k hk => by have := hT k hk; omega)), ⟨l1, l2, l3, l4, l5, l6, l7, l8, l9, l10, Nat.le_trans l11 hs.size⟩, hs.cell h.m0 n1, hs.cell h.m1 n1, hs.cell h.w0 n4, hs.cell h.b0 n2, hs.cell h.b1 n2, hs.cell h.b2 n2, hs.cell h.b3 n2, hs.frozen h.b3 n2 h.f3, h.mt.sep hs n2, h.row.sep hs n3⟩
theorem OpM.below (h : OpM w m oa oc bm bw b rb S R c W) (hb : Below W.heap.size W W') : OpM w m oa oc bm bw b rb S R c W' := h.sep (T := fun _ => False) (Sep.of_below hb) (fun _ h => h.elim)
theorem OpM.steady {B : Nat} (h : OpM w m oa oc bm bw b rb S R c W) (hs : Steady B W W') (hB : w.heap.size ≤ B) : OpM w m oa oc bm bw b rb S R c W' := by
  obtain ⟨l1, l2, l3, l4, l5, l6, l7, l8, l9, l10, l11⟩ := h.lt
  exact ⟨h.be.steady hs hB (by omega), ⟨l1, l2, l3, l4, l5, l6, l7, l8, l9, l10, Nat.le_trans l11 hs.size⟩, hs.cell h.m0, hs.cell h.m1, hs.cell h.w0, hs.cell h.b0, hs.cell h.b1, hs.cell h.b2, hs.cell h.b3, (hs.frozen h.b3).trans h.f3, h.mt.steady hs, h.row.steady hs⟩
theorem OpM.setR (h : OpM w m oa oc bm bw b rb S R c W) {k : Nat} (hk : k < m.n) (v : Int) : OpM w m oa oc bm bw b rb S (upd R k v) c (W.setCell ⟨rb, k, none⟩ (.int .i64 v)) := by
  obtain ⟨l1, l2, l3, l4, l5, l6, l7, l8, l9, l10, l11⟩ := h.lt
  have hs := Sep.set W rb k (.int .i64 v)
  have n1 : ¬ bm = rb := by omega
  have n2 : ¬ b = rb := by omega
  have n4 : ¬ bw = rb := by omega
  exact ⟨h.be.trans (hs.below (by omega) (fun k hk => by omega)), ⟨l1, l2, l3, l4, l5, l6, l7, l8, l9, l10, Nat.le_trans l11 hs.size⟩, hs.cell h.m0 n1, hs.cell h.m1 n1, hs.cell h.w0 n4, hs.cell h.b0 n2, hs.cell h.b1 n2, hs.cell h.b2 n2, hs.cell h.b3 n2, hs.frozen h.b3 n2 h.f3, h.mt.sep hs n2, h.row.put hk v⟩
theorem OpM.setN (h : OpM w m oa oc bm bw b rb S R c W) (c' : Nat) : OpM w m oa oc bm bw b rb S R c' (W.setCell ⟨b, 3, none⟩ (.int .i64 c')) := by
  obtain ⟨l1, l2, l3, l4, l5, l6, l7, l8, l9, l10, l11⟩ := h.lt
  have hs := Sep.set W b 3 (.int .i64 c')
  have n1 : ¬ bm = b := by omega
  have n3 : ¬ rb = b := by omega
  have n4 : ¬ bw = b := by omega
  refine ⟨h.be.trans (hs.below (by omega) (fun k hk => by omega)), ⟨l1, l2, l3, l4, l5, l6, l7, l8, l9, l10, Nat.le_trans l11 hs.size⟩, hs.cell h.m0 n1, hs.cell h.m1 n1, hs.cell h.w0 n4, ?_, ?_, ?_, setCell_same _ _ h.b3, by rw [World.frozen?_setCell]; exact h.f3, fun k hk => ⟨?_, by rw [World.frozen?_setCell]; exact (h.mt k hk).2⟩, h.row.sep hs n3⟩
  · rw [setCell_off _ _ (by omega)]; exact h.b0
  · rw [setCell_off _ _ (by omega)]; exact h.b1
  · rw [setCell_off _ _ (by omega)]; exact h.b2
  · rw [setCell_off _ _ (by omega)]; exact (h.mt k hk).1
theorem OpP.all {done : Nat → Bool} {x5 x16 x20 x21 x22 : Value} (H : OpP w bm m.wd oa m.n oc done x5 x16 x20 x21 x22 W) (hbm : bm = w.heap.size) (hall : ∀ i ∈ [1, 5, 6, 7, 8, 9], done i = true) :
    ∃ bw b rb, x5 = .pointer (some ⟨bw, 0, none⟩) ∧ OpM w m oa oc bm bw b rb W.heap.size (fun _ => -1) 0 W := by
  obtain ⟨g, h1, h2, h3⟩ := H.d5 (hall 5 (by simp))
  obtain ⟨-, b, h4, h5, h6⟩ := H.d7 (hall 7 (by simp))
  obtain ⟨q, u, h7, h8, h9, h10⟩ := H.d8 (hall 8 (by simp))
  have h10 := h10 (hall 9 (by simp))
  obtain ⟨cur, h11, -⟩ := h3.o
  have e1 : b ≠ g := fun e => by subst e; rw [h6] at h11; cases h11
  have e2 : b ≠ q := fun e => by subst e; rw [h6] at h9; cases h9
  have e3 : g ≠ q := fun e => by subst e; rw [h11] at h9; cases h9
  have a1 := (Array.getElem?_eq_some_iff.1 h6).1
  have a2 := (Array.getElem?_eq_some_iff.1 h9).1
  have a3 := (Array.getElem?_eq_some_iff.1 h11).1
  refine ⟨q, b, g, h7, H.be.1, ⟨hbm, by omega, by omega, by omega, e1, e2, e3, a1, a3, a2, Nat.le_refl _⟩, H.c.1, H.c.2, ?_, ?_, ?_, ?_, ?_, ?_, fun k hk => ⟨?_, ?_⟩, h3⟩
  · subst h10 h4; simp [World.cell?, h9]
  · simp [World.cell?, h6, workCells]
  · simp [World.cell?, h6, workCells]
  · simp [World.cell?, h6, workCells, h1]
  · simp [World.cell?, h6, workCells]
  · simp [World.frozen?, h6]
  · have : (workCells (.int .i64 m.wd) (.slice oa m.n oc) x20 (.int .i64 0))[4 + k]? = some (.bool false) := by
      unfold workCells
      rw [List.getElem?_toArray, show 4 + k = k + 1 + 1 + 1 + 1 by omega]
      simp only [List.getElem?_cons_succ]
      exact List.getElem?_replicate_of_lt hk
    simp [World.cell?, h6, this]
  · simp [World.frozen?, h6]
end
end Go.Proofs.Ytiacgaplhndlnaa
