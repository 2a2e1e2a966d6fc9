/-
  Parts of the proof, in the order in which they build: EvQ.
-/
import Derived.Deep.CutRange
import Derived.Deep.MidRow
import Derived.Test.YtiacgaplhndlnaaF19
set_option linter.unusedVariables false
set_option linter.unusedSimpArgs false
namespace Go.Proofs.Ytiacgaplhndlnaa
open Go.RowKit Go.Shelf
open Lim

attribute [local go_sem] Oper.semAt_some

theorem results_mid {P : Program} {fn : Func} {p : Tmp} {ty : TypeId} (h : fn.results = #[.cell p ty]) (tmps : Array Value) (w : World) (b o : Nat) (cs : List Value) (d : TypeDesc)
    (hp : tmps.getD p undef = .pointer (some ⟨b, o, none⟩)) (hc : w.rangeAt b o cs) (hu : P.underlying ty = some d) (hd : d.isRow = true) (hi : (P.info? ty).map (·.size) = some cs.length) :
    (results fn tmps).run P w = .ok (.agg cs.toArray) w := by
  have hp' : tmps[p]?.getD undef = .pointer (some ⟨b, o, none⟩) := by simpa using hp
  simp [results, h, hp', asAddr, run_loadVar_mid w b o ty cs d hc hu hd hi]
theorem Try.infoMap : (Try.prog.info? 25).map (·.size) = some 2 := by kernel_rfl
theorem two_range {W : World} {q : Nat} {a b : Value} (h0 : W.cell? ⟨q, 0, none⟩ = some a) (h1 : W.cell? ⟨q, 1, none⟩ = some b) : W.rangeAt q 0 [a, b] := fun j v hv => by
  rw [Nat.zero_add]
  match j with
  | 0 => rw [h0]; simpa using hv
  | 1 => rw [h1]; simpa using hv
  | j + 2 => simp at hv
/-- n numbers in a block of their own of cap cells -/
structure RowK (W : World) (g n cap : Nat) (R : Nat → Int) : Prop where
  c : ∀ j, j < n → W.cell? ⟨g, j, none⟩ = some (.int .i64 (R j))
  f : ∀ j, j < n → W.frozen? ⟨g, j, none⟩ = false
  o : ∃ cur, W.heap[g]? = some (.cells cur 3 (0, 0)) ∧ cur.size = cap
  le : n ≤ cap ∧ cap ≤ maxLen
theorem RowK.sep {W W' : World} {g n cap : Nat} {R : Nat → Int} {T : Nat → Prop} (h : RowK W g n cap R) (hs : Sep T W W') (hT : ¬ T g) : RowK W' g n cap R :=
  ⟨fun j hj => hs.cell (h.c j hj) hT, fun j hj => hs.frozen (h.c j hj) hT (h.f j hj), let ⟨cur, h1, h2⟩ := h.o; ⟨cur, hs.heap h1 hT, h2⟩, h.le⟩
theorem RowK.put {W : World} {g n cap k : Nat} {R : Nat → Int} (h : RowK W g n cap R) (hk : k < n) (v : Int) : RowK (W.setCell ⟨g, k, none⟩ (.int .i64 v)) g n cap (upd R k v) := by
  refine ⟨fun j hj => ?_, fun j hj => by rw [World.frozen?_setCell]; exact h.f j hj, let ⟨cur, h1, h2⟩ := h.o; ⟨_, heap_setCell_self _ h1, by simpa using h2⟩, h.le⟩
  by_cases e : j = k
  · subst e; rw [upd_same]; exact setCell_same _ _ (h.c j hj)
  · rw [upd_ne _ _ e, setCell_off _ _ (Ne.symm e)]; exact h.c j hj
theorem RowK.lt {W : World} {g n cap : Nat} {R : Nat → Int} (h : RowK W g n cap R) : g < W.heap.size := let ⟨_, h1, _⟩ := h.o; (Array.getElem?_eq_some_iff.1 h1).1
theorem RowK.owns {W : World} {g n cap : Nat} {R : Nat → Int} (h : RowK W g n cap R) {base : Nat} (hb : base ≤ g) : W.ownsRow base 3 1 (.slice (some ⟨g, 0, none⟩) n cap) n (ints ((List.range n).map R)) := by
  obtain ⟨cur, h1, h2⟩ := h.o
  refine ⟨by simp [ints], .inr ⟨g, cap, cur, rfl, hb, h1, h.le.1, h.le.2, by omega, ?_⟩⟩
  refine List.ext_getElem? (fun j => ?_)
  rw [List.getElem?_take]
  by_cases hj : j < n
  · rw [if_pos (by omega)]
    have hc := h.c j hj
    have hc : cur[j]? = some (.int .i64 (R j)) := by simpa [World.cell?, h1] using hc
    simp [ints, hj]
    simpa using hc
  · rw [if_neg (by omega), List.getElem?_eq_none (by simp [ints]; omega)]
theorem RowK.of_owns {W : World} {base n : Nat} {v : Value} {xs : List Int} (h : W.ownsRow base 3 1 v n (ints xs)) (h0 : 0 < n) : ∃ g cap, v = .slice (some ⟨g, 0, none⟩) n cap ∧ base ≤ g ∧ RowK W g n cap (fun j => xs.getD j 0) := by
  rcases h.2 with ⟨-, h1⟩ | ⟨g, cap, cur, rfl, hb, hg, h1, h2, h3, -⟩
  · omega
  · have hl : xs.length = n := by have := h.1; simpa [ints] using this
    refine ⟨g, cap, rfl, hb, ⟨fun j hj => ?_, fun j hj => by simp [World.frozen?, hg], ⟨cur, hg, by omega⟩, h1, h2⟩⟩
    have := h.cells (g := g) rfl j _ (ints_at' xs j (by omega))
    rw [Addr.add_lit, Nat.zero_add] at this
    exact this
/-- the plots' owners where each region has that of another one, where there is one -/
def IsGiv (m : Mp) (r : Nat → Nat) (T O : Nat → Int) (t : Nat) : Prop :=
  (∀ p, p < t → T (r p) = -1 → O p = m.own p) ∧ (∀ p, p < t → ∀ q, q < m.n → T (r p) = (r q : Int) → O p = m.own q) ∧ (∀ p, t ≤ p → p < m.n → O p = m.own p)
/-- while the first plots of the regions are looked for: those ahead of plot t -/
def IsFst (r : Nat → Nat) (k : Nat) (F : Nat → Int) (t : Nat) : Prop := (∀ q, q < t → F (r q) ≠ -1) ∧ ∀ j, j < k → F j = -1 ∨ ∃ q : Nat, F j = q ∧ q < t ∧ r q = j
theorem IsFst.set {r : Nat → Nat} {k : Nat} {F : Nat → Int} {t : Nat} (h : IsFst r k F t) : IsFst r k (upd F (r t) t) (t + 1) := by
  refine ⟨fun q hq => ?_, fun j hj => ?_⟩
  · by_cases e : r q = r t
    · rw [e, upd_same]; omega
    · rw [upd_ne _ _ e]
      exact h.1 q (by
        have : q ≠ t := fun e' => e (by rw [e'])
        omega)
  · by_cases e : j = r t
    · exact .inr ⟨t, by rw [e, upd_same], by omega, e.symm⟩
    · rw [upd_ne _ _ e]
      rcases h.2 j hj with h1 | ⟨q, h1, h2, h3⟩
      · exact .inl h1
      · exact .inr ⟨q, h1, by omega, h3⟩
theorem IsFst.skip {r : Nat → Nat} {k : Nat} {F : Nat → Int} {t : Nat} (h : IsFst r k F t) (hF : F (r t) ≠ -1) : IsFst r k F (t + 1) := by
  refine ⟨fun q hq => ?_, fun j hj => ?_⟩
  · by_cases e : q = t
    · rw [e]; exact hF
    · exact h.1 q (by omega)
  · rcases h.2 j hj with h1 | ⟨q, h1, h2, h3⟩
    · exact .inl h1
    · exact .inr ⟨q, h1, by omega, h3⟩
/-- plots of one region have one owner -/
theorem IsReg.own1 {m : Mp} {r : Nat → Nat} (h : IsReg m r) {p q : Nat} (hp : p < m.n) (hq : q < m.n) (e : r p = r q) : m.own q = m.own p := ((h.same p q hp hq).1 e).own
theorem IsGiv.skip {m : Mp} {r : Nat → Nat} {T O : Nat → Int} {t : Nat} (h : IsGiv m r T O t) (hT : T (r t) = -1) (ht : t < m.n) : IsGiv m r T O (t + 1) := by
  refine ⟨fun p hp h1 => ?_, fun p hp q hq h1 => ?_, fun p hp hpn => h.2.2 p (by omega) hpn⟩
  · by_cases e : p = t
    · subst e; exact h.2.2 p (Nat.le_refl _) ht
    · exact h.1 p (by omega) h1
  · by_cases e : p = t
    · subst e; omega
    · exact h.2.1 p (by omega) q hq h1
theorem IsGiv.set {m : Mp} {r : Nat → Nat} {T O : Nat → Int} {t : Nat} (hr : IsReg m r) (h : IsGiv m r T O t) {q0 : Nat} (hq : q0 < m.n) (hT : T (r t) = (r q0 : Int)) (ht : t < m.n) : IsGiv m r T (upd O t (m.own q0)) (t + 1) := by
  refine ⟨fun p hp h1 => ?_, fun p hp q hqn h1 => ?_, fun p hp hpn => by rw [upd_ne _ _ (by omega)]; exact h.2.2 p (by omega) hpn⟩
  · by_cases e : p = t
    · subst e; omega
    · rw [upd_ne _ _ e]; exact h.1 p (by omega) h1
  · by_cases e : p = t
    · subst e; rw [upd_same]; exact (hr.own1 hq hqn (by omega)).symm
    · rw [upd_ne _ _ e]; exact h.2.1 p (by omega) q hqn h1
/-- what lies in memory while given works: below w.heap.size all is as it was -/
structure GvM (w : World) (q4 g1 k : Nat) (F : Nat → Int) (W : World) : Prop where
  be : Below w.heap.size w W
  c4 : W.cell? ⟨q4, 0, none⟩ = some (.int .i64 0) ∧ W.cell? ⟨q4, 1, none⟩ = some (.slice none 0 0) ∧ W.frozen? ⟨q4, 0, none⟩ = false ∧ W.frozen? ⟨q4, 1, none⟩ = false
  lt : w.heap.size ≤ q4 ∧ w.heap.size ≤ g1 ∧ q4 ≠ g1
  row : RowC W g1 k F
theorem GvM.sep {w W W' : World} {q4 g1 k : Nat} {F : Nat → Int} {T : Nat → Prop} (h : GvM w q4 g1 k F W) (hs : Sep T W W') (hT : ∀ x, T x → w.heap.size ≤ x ∧ x ≠ q4 ∧ x ≠ g1) : GvM w q4 g1 k F W' := by
  have n4 : ¬ T q4 := fun h => (hT _ h).2.1 rfl
  have n1 : ¬ T g1 := fun h => (hT _ h).2.2 rfl
  exact ⟨h.be.trans (hs.below h.be.size (fun x hx => (hT x hx).1)), ⟨hs.cell h.c4.1 n4, hs.cell h.c4.2.1 n4, hs.frozen h.c4.1 n4 h.c4.2.2.1, hs.frozen h.c4.2.1 n4 h.c4.2.2.2⟩, h.lt, h.row.sep hs n1⟩
theorem GvM.set {w W : World} {q4 g1 k : Nat} {F : Nat → Int} (h : GvM w q4 g1 k F W) {j : Nat} (hj : j < k) (v : Int) : GvM w q4 g1 k (upd F j v) (W.setCell ⟨g1, j, none⟩ (.int .i64 v)) := by
  have hs := Sep.set W g1 j (.int .i64 v)
  have n4 : ¬ q4 = g1 := h.lt.2.2
  exact ⟨h.be.trans (hs.below h.be.size (fun x hx => by rw [hx]; exact h.lt.2.1)), ⟨hs.cell h.c4.1 n4, hs.cell h.c4.2.1 n4, hs.frozen h.c4.1 n4 h.c4.2.2.1, hs.frozen h.c4.2.1 n4 h.c4.2.2.2⟩, h.lt, h.row.put hj v⟩
/-- while the copy is laid, in whatever order -/
structure Gv8 (w : World) (q4 g1 k : Nat) (F : Nat → Int) (wd : Int) (n : Nat) (own : Nat → Int) (done : Nat → Bool) (x8 x47 x48 : Value) (W : World) : Prop where
  M : GvM w q4 g1 k F W
  d10 : done 10 = true → ∃ g2 cap, x47 = .slice (some ⟨g2, 0, none⟩) n cap ∧ (w.heap.size ≤ g2 ∧ g2 ≠ q4 ∧ g2 ≠ g1) ∧ RowK W g2 n cap own
  d11 : done 11 = true → done 10 = true ∧ x48 = .agg #[.int .i64 wd, x47]
  d12 : done 12 = true → ∃ q8 u0 u1, x8 = .pointer (some ⟨q8, 0, none⟩) ∧ (w.heap.size ≤ q8 ∧ q8 ≠ q4 ∧ q8 ≠ g1) ∧ W.heap[q8]? = some (.cells #[u0, u1] 25 (0, 0)) ∧ (done 13 = true → u0 = .int .i64 wd ∧ u1 = x47)
  d13 : done 13 = true → done 11 = true ∧ done 12 = true
theorem GvM.lt4 {w W : World} {q4 g1 k : Nat} {F : Nat → Int} (h : GvM w q4 g1 k F W) : q4 < W.heap.size ∧ g1 < W.heap.size := ⟨World.block_lt_of_cell? _ _ h.c4.1, h.row.lt⟩
section
variable {w : World} {q4 g1 k : Nat} {F : Nat → Int} {wd : Int} {n : Nat} {own : Nat → Int} {done : Nat → Bool} {x8 x47 x48 : Value} {W W' : World}
theorem Gv8.grow (H : Gv8 w q4 g1 k F wd n own done x8 x47 x48 W) (hb : Below W.heap.size W W') : Gv8 w q4 g1 k F wd n own done x8 x47 x48 W' :=
  ⟨H.M.sep (T := fun _ => False) (Sep.of_below hb) (fun _ h => h.elim), fun h => let ⟨g2, c, h1, h2, h3⟩ := H.d10 h; ⟨g2, c, h1, h2, h3.sep (T := fun _ => False) (Sep.of_below hb) id⟩, H.d11,
   fun h => let ⟨q, u0, u1, h1, h2, h3, h4⟩ := H.d12 h; ⟨q, u0, u1, h1, h2, (hb.block q (Array.getElem?_eq_some_iff.1 h3).1).trans h3, h4⟩, H.d13⟩
theorem Gv8.cloned (H0 : Gv8 w q4 g1 k F wd n own done x8 x47 x48 W) (hd : done 10 = false) (hb : Below W.heap.size W W') {g2 cap : Nat} (hg : W.heap.size ≤ g2) (hR : RowK W' g2 n cap own) : Gv8 w q4 g1 k F wd n own (dn done 10) x8 (.slice (some ⟨g2, 0, none⟩) n cap) x48 W' := by
  have H := H0.grow hb
  have hl := H0.M.lt4
  have hbe := H0.M.be.size
  refine ⟨H.M, fun _ => ⟨g2, cap, rfl, ⟨by omega, by omega, by omega⟩, hR⟩, fun h => ?_, fun h => ?_, fun h => let ⟨h1, h2⟩ := H.d13 (dn_ne (by decide) h); ⟨dn_on h1, dn_on h2⟩⟩
  · have := (H0.d11 (dn_ne (by decide) h)).1; rw [hd] at this; cases this
  · obtain ⟨q, u0, u1, h1, h2, h3, h4⟩ := H.d12 (dn_ne (by decide) h)
    exact ⟨q, u0, u1, h1, h2, h3, fun h => by have := (H0.d11 (H0.d13 (dn_ne (by decide) h)).1).1; rw [hd] at this; cases this⟩
theorem Gv8.built (H : Gv8 w q4 g1 k F wd n own done x8 x47 x48 W) (h10 : done 10 = true) : Gv8 w q4 g1 k F wd n own (dn done 11) x8 x47 (.agg #[.int .i64 wd, x47]) W :=
  ⟨H.M, fun h => H.d10 (dn_ne (by decide) h), fun _ => ⟨dn_on h10, rfl⟩, fun h => let ⟨q, u0, u1, h1, h2, h3, h4⟩ := H.d12 (dn_ne (by decide) h); ⟨q, u0, u1, h1, h2, h3, fun h => h4 (dn_ne (by decide) h)⟩, fun h => let ⟨h1, h2⟩ := H.d13 (dn_ne (by decide) h); ⟨dn_on h1, dn_on h2⟩⟩
theorem Gv8.laid (H0 : Gv8 w q4 g1 k F wd n own done x8 x47 x48 W) (hd : done 12 = false) {u0 u1 : Value} : Gv8 w q4 g1 k F wd n own (dn done 12) (.pointer (some ⟨W.heap.size, 0, none⟩)) x47 x48 (W.alloc (.cells #[u0, u1] 25)) := by
  have H := H0.grow ((Below.refl _ W).alloc (Nat.le_refl _) (.cells #[u0, u1] 25))
  have hl := H0.M.lt4
  have hbe := H0.M.be.size
  refine ⟨H.M, fun h => H.d10 (dn_ne (by decide) h), fun h => let ⟨h1, h2⟩ := H.d11 (dn_ne (by decide) h); ⟨dn_on h1, h2⟩, fun _ => ⟨_, _, _, rfl, ⟨by omega, by omega, by omega⟩, heap_alloc_new _ _, fun h => ?_⟩, fun h => ?_⟩
  · have := (H0.d13 (dn_ne (by decide) h)).2; rw [hd] at this; cases this
  · have := (H0.d13 (dn_ne (by decide) h)).2; rw [hd] at this; cases this
theorem heap_set_two {w : World} {g : Nat} {u0 u1 : Value} {e : Nat} (v0 v1 : Value) (h : w.heap[g]? = some (.cells #[u0, u1] e (0, 0))) : ((w.setCell ⟨g, 0, none⟩ v0).setCell ⟨g, 1, none⟩ v1).heap[g]? = some (.cells #[v0, v1] e (0, 0)) := by
  have h1 := heap_setCell_self (o := 0) v0 h
  have h2 := heap_setCell_self (o := 1) v1 h1
  simpa using h2
theorem Gv8.stored (H : Gv8 w q4 g1 k F wd n own done x8 x47 x48 W) (h11 : done 11 = true) (h12 : done 12 = true) {q8 : Nat} (hx : x8 = .pointer (some ⟨q8, 0, none⟩)) {u0 u1 : Value} (ho : W.heap[q8]? = some (.cells #[u0, u1] 25 (0, 0))) (hq : w.heap.size ≤ q8 ∧ q8 ≠ q4 ∧ q8 ≠ g1) :
    Gv8 w q4 g1 k F wd n own (dn done 13) x8 x47 x48 ((W.setCell ⟨q8, 0, none⟩ (.int .i64 wd)).setCell ⟨q8, 1, none⟩ x47) := by
  have hs : Sep (fun x => x = q8) W ((W.setCell ⟨q8, 0, none⟩ (.int .i64 wd)).setCell ⟨q8, 1, none⟩ x47) := (Sep.set W q8 0 _).trans (Sep.set _ q8 1 _)
  refine ⟨H.M.sep hs (fun x hx => by rw [hx]; exact hq), fun h => ?_, fun h => let ⟨h1, h2⟩ := H.d11 (dn_ne (by decide) h); ⟨dn_on h1, h2⟩, fun _ => ⟨q8, _, _, hx, hq, heap_set_two _ _ ho, fun _ => ⟨rfl, rfl⟩⟩, fun _ => ⟨dn_on h11, dn_on h12⟩⟩
  obtain ⟨g2, c, h1, h2, h3⟩ := H.d10 (dn_ne (by decide) h)
  refine ⟨g2, c, h1, h2, h3.sep hs (fun e => ?_)⟩
  obtain ⟨cur, h4, -⟩ := h3.o
  subst e
  rw [h4] at ho
  cases ho
end
/-- .. with the copy -/
structure GvO (w : World) (q4 g1 k : Nat) (F : Nat → Int) (q8 g2 cap : Nat) (wd : Int) (n : Nat) (O : Nat → Int) (W : World) : Prop where
  M : GvM w q4 g1 k F W
  c0 : W.cell? ⟨q8, 0, none⟩ = some (.int .i64 wd)
  c1 : W.cell? ⟨q8, 1, none⟩ = some (.slice (some ⟨g2, 0, none⟩) n cap)
  row : RowK W g2 n cap O
  lt : (w.heap.size ≤ q8 ∧ q8 ≠ q4 ∧ q8 ≠ g1) ∧ (w.heap.size ≤ g2 ∧ g2 ≠ q4 ∧ g2 ≠ g1) ∧ q8 ≠ g2
theorem GvO.drew {w : World} {q4 g1 k : Nat} {F : Nat → Int} {q8 g2 cap : Nat} {wd : Int} {n : Nat} {O : Nat → Int} {W : World} (h : GvO w q4 g1 k F q8 g2 cap wd n O W) : GvO w q4 g1 k F q8 g2 cap wd n O W.drew :=
  ⟨h.M.sep (T := fun _ => False) (Sep.drew W) (fun _ h => h.elim), h.c0, h.c1, h.row.sep (T := fun _ => False) (Sep.drew W) id, h.lt⟩
theorem GvO.set {w : World} {q4 g1 k : Nat} {F : Nat → Int} {q8 g2 cap : Nat} {wd : Int} {n : Nat} {O : Nat → Int} {W : World} (h : GvO w q4 g1 k F q8 g2 cap wd n O W) {j : Nat} (hj : j < n) (v : Int) : GvO w q4 g1 k F q8 g2 cap wd n (upd O j v) (W.setCell ⟨g2, j, none⟩ (.int .i64 v)) := by
  have hs := Sep.set W g2 j (.int .i64 v)
  exact ⟨h.M.sep hs (fun x hx => by rw [hx]; exact h.lt.2.1), hs.cell h.c0 h.lt.2.2, hs.cell h.c1 h.lt.2.2, h.row.put hj v, h.lt⟩
/-- what given answers -/
def GivAns (m : Mp) (r : Nat → Nat) (T : Nat → Int) (w : World) (e : Ending) (w' : World) : Prop :=
  Below w.heap.size w w' ∧ ∃ (v : Value) (O : Nat → Int), e = .returned (.agg #[.int .i64 m.wd, v]) ∧ IsGiv m r T O m.n ∧ w'.ownsRow w.heap.size 3 1 v m.n (ints ((List.range m.n).map O))
set_option maxRecDepth 20000 in
set_option maxHeartbeats 4000000 in
theorem given_any {B b g : Nat} {m : Mp} {r : Nat → Nat} {k : Nat} {T : Nat → Int} {tv : Value} {w : World} (hm : m.Ok) (hr : IsReg m r) (hk : IsMany m r k) (hw : WkE w B b g m r k) (hB : B ≤ w.heap.size) (hT : ∀ i, i < k → T i = -1 ∨ ∃ j : Nat, T i = j ∧ j < k) (hv : RS w.heap.size w tv k (ints ((List.range k).map T))) :
    Calls Try.prog 71 #[.pointer (some ⟨b, 0, none⟩), tv] w fun e w' => GivAns m r T w e w' := by
  have HM := Lib.hid (And.intro hm (And.intro hr (And.intro hk hT)))
  have k100 : k ≤ 100 := Nat.le_trans hk.le hm.n1
  have k1 : 1 ≤ k := hk.pos hm
  have n100 : m.n ≤ 100 := hm.n1
  have n1 : 0 < m.n := hm.n0
  have HW := Lib.hid hw
  obtain ⟨ta, tc, rfl, ht⟩ := hv
  obtain ⟨tb, tf, rfl, htb, htc⟩ := ht (ints_ne (by simp; omega))
  have HT := Lib.hid (show ∀ i, i < k → w.cell? ⟨tb, tf + i, none⟩ = some (.int .i64 (T i)) from fun i hi => htc i _ (by simp [ints, hi]))
  have HTB := Lib.hid (And.intro htb hB)
  have c3 := hw.c3
  clear hm hr hk hT ht htc hw htb hB
  go_enter Try.func71, Try.ntmps71
  refine wp_noPanic ?_
  have e3 : (w.alloc (.cells #[.int .i64 0, .slice none 0 0] 25)).cell? ⟨b, 3, none⟩ = some (.int .i64 k) := ((Below.refl _ w).alloc (Nat.le_refl _) _).on c3
  have hk64 : (k : Int) < 1000 := by omega
  have e4 : ((w.alloc (.cells #[.int .i64 0, .slice none 0 0] 25)).alloc (.cells #[.int .i64 (-1)] 3)).cell? ⟨b, 3, none⟩ = some (.int .i64 k) := ((Below.refl _ _).alloc (Nat.le_refl _) _).on e3
  go_wp2_with fail
  obtain ⟨wa, hwa⟩ : ∃ wa, wa = (w.alloc (.cells #[.int .i64 0, .slice none 0 0] 25)).alloc (.cells #[.int .i64 (-1)] 3) := ⟨_, rfl⟩
  have hba : Below w.heap.size w wa := by rw [hwa]; exact ((Below.refl _ w).alloc (Nat.le_refl _) _).alloc (by simp) _
  have hsa : w.heap.size + 2 = wa.heap.size := by rw [hwa]; simp
  have a1 : wa.cell? ⟨w.heap.size + 1, 0, none⟩ = some (.int .i64 (-1)) := by rw [hwa]; simp [go_sem]
  have a2 : wa.cell? ⟨w.heap.size, 0, none⟩ = some (.int .i64 0) ∧ wa.cell? ⟨w.heap.size, 1, none⟩ = some (.slice none 0 0) ∧ wa.frozen? ⟨w.heap.size, 0, none⟩ = false ∧ wa.frozen? ⟨w.heap.size, 1, none⟩ = false := by
    rw [hwa]; refine ⟨?_, ?_, ?_, ?_⟩ <;> simp [go_sem]
  rw [← hwa]
  clear hwa e3 e4
  refine (repeat_any (c := 1) k100 k1 a1).mono ?_
  rintro e w1 ⟨g1, rfl, hR⟩
  obtain ⟨q4, hq4⟩ : ∃ q, q = w.heap.size := ⟨_, rfl⟩
  have M0 : Hid (GvM w q4 g1 k (fun _ => -1) w1) := Lib.hid (by
    have h1 := hR.ge
    rw [hq4]
    exact ⟨hba.trans (hR.be.mono hba.size), ⟨hR.be.on a2.1, hR.be.on a2.2.1, frozen_on hR.be a2.1 a2.2.2.1, frozen_on hR.be a2.2.1 a2.2.2.2⟩, ⟨Nat.le_refl _, by omega, by omega⟩, hR.row⟩)
  clear hR a1 a2 hsa hba
  have HQ4 := Lib.hid hq4
  rw [← hq4]
  clear hq4
  have HBG := Lib.hid (And.intro (World.block_lt_of_cell? _ _ HW.out.c0 : b < w.heap.size) HW.out.row.lt)
  have e2 : w1.cell? ⟨b, 2, none⟩ = some (.slice (some ⟨g, 0, none⟩) m.n m.n) := cell_below M0.out.be HW.out.c2 HBG.out.1
  go_wp2_with fail
  clear c3 e2
  go_loopw [22] (fun v wr => ∃ t : Nat, t ≤ m.n ∧ v = .int .i64 t ∧ ∃ F : Nat → Int, Hid (GvM w q4 g1 k F wr ∧ IsFst r k F t)) (fun v _ => m.n - (intOf v).toNat)
  case atStart => exact ⟨0, Nat.zero_le _, rfl, _, Lib.hid ⟨M0.out, fun q hq => absurd hq (Nat.not_lt_zero _), fun _ _ => .inl rfl⟩⟩
  case round =>
    clear M0
    obtain ⟨t, ht, rfl, F, hI⟩ := hrel
    by_cases hlt : t < m.n
    · have ht64 : (t : Int) < 100 := by omega
      obtain ⟨rt, hrt⟩ : ∃ rt, rt = r t := ⟨_, rfl⟩
      have hrk : rt < k := by rw [hrt]; exact HM.out.2.2.1.lt t hlt
      have d1 : wr.cell? ⟨g, t, none⟩ = some (.int .i64 rt) := by rw [hrt]; exact cell_below hI.out.1.be (HW.out.row.c t hlt) HBG.out.2
      obtain ⟨f, hf⟩ : ∃ f, f = F rt := ⟨_, rfl⟩
      have d2 : wr.cell? ⟨g1, rt, none⟩ = some (.int .i64 f) := by rw [hf]; exact hI.out.1.row.c rt hrk
      have d3 := hI.out.1.row.f rt hrk
      have HRT := Lib.hid (And.intro hrt hf)
      clear hrt hf
      by_cases hf1 : f = -1
      · subst hf1
        have HS : Hid (GvM w q4 g1 k (upd F rt t) (wr.setCell ⟨g1, rt, none⟩ (.int .i64 t)) ∧ IsFst r k (upd F rt t) (t + 1)) := Lib.hid ⟨hI.out.1.set hrk t, by rw [HRT.out.1]; exact hI.out.2.set⟩
        go_wp2_with fail
        go_roundw
        case rel => exact ⟨t + 1, by omega, by go_num, _, HS⟩
        case measure => simp [intOf]; omega
      · have g2 : (f == -1) = false := by rw [beq_eq_false_iff_ne]; exact hf1
        have HS : Hid (IsFst r k F (t + 1)) := Lib.hid (hI.out.2.skip (by rw [← HRT.out.1, ← HRT.out.2]; exact hf1))
        clear hf1
        go_wp2_with fail
        go_roundw
        case rel => exact ⟨t + 1, by omega, by go_num, F, Lib.hid ⟨hI.out.1, HS.out⟩⟩
        case measure => simp [intOf]; omega
    · obtain rfl : t = m.n := by omega
      have HF := Lib.hid hI.out
      clear hI
      obtain ⟨ov, ho1, hov⟩ := HW.out.c1
      have HOV := Lib.hid hov
      obtain ⟨oa, oc, rfl, hos⟩ := hov
      obtain ⟨ob, oo, rfl, hob, hoc⟩ := hos (ints_ne (show 0 < m.os.length from n1))
      have HOC := Lib.hid (show ∀ q, q < m.n → w.cell? ⟨ob, oo + q, none⟩ = some (.int .i64 (m.own q)) from fun q hq => hoc q _ (ints_at' _ _ hq))
      have HOB := Lib.hid hob
      clear hos hoc hob
      have d0 := cell_below HF.out.1.be HW.out.c0 HBG.out.1
      have d1 := cell_below HF.out.1.be ho1 HBG.out.1
      have hC : (fun W => W.cell? ⟨b, 0, none⟩ = some (.int .i64 m.wd) ∧ W.cell? ⟨b, 1, none⟩ = some (.slice (some ⟨ob, oo, none⟩) m.n oc)) wr.drew := ⟨d0, d1⟩
      go_wp2_with fail
      refine Lim.regC' (fun W => W.cell? ⟨b, 0, none⟩ = some (.int .i64 m.wd) ∧ W.cell? ⟨b, 1, none⟩ = some (.slice (some ⟨ob, oo, none⟩) m.n oc)) [] #[false, false, false, false, false, false, false, false, false, false, false, false, false, false] (by kernel_rfl) rfl ?_
      refine Lim.stepR 0 (fun _ => trivial) rfl (by kernel_rfl) (fun _ _ _ _ h => h) hC rfl ?_; apply Exists.intro; refine ⟨?_, ?_⟩
      · rintro w ⟨r1, r2⟩; go_simp; try with_reducible rfl
      simp only [Act.put, List.setIfInBounds_toArray, List.set_cons_succ, List.set_cons_zero]
      refine Lim.stepR 1 (fun _ => trivial) rfl (by kernel_rfl) (fun _ _ _ _ h => h) hC rfl ?_; apply Exists.intro; refine ⟨?_, ?_⟩
      · rintro w ⟨r1, r2⟩; go_simp; try with_reducible rfl
      simp only [Act.put, List.setIfInBounds_toArray, List.set_cons_succ, List.set_cons_zero]
      refine Lim.stepR 2 (fun _ => trivial) rfl (by kernel_rfl) (fun _ _ _ _ h => h) hC rfl ?_; apply Exists.intro; refine ⟨?_, ?_⟩
      · rintro w ⟨r1, r2⟩; go_simp; try with_reducible rfl
      simp only [Act.put, List.setIfInBounds_toArray, List.set_cons_succ, List.set_cons_zero]
      refine Lim.stepR 3 (fun _ => trivial) rfl (by kernel_rfl) (fun _ _ _ _ h => h) hC rfl ?_; apply Exists.intro; refine ⟨?_, ?_⟩
      · rintro w ⟨r1, r2⟩; go_simp; try with_reducible rfl
      simp only [Act.put, List.setIfInBounds_toArray, List.set_cons_succ, List.set_cons_zero]
      refine Lim.stepR 4 (fun _ => trivial) rfl (by kernel_rfl) (fun _ _ _ _ h => h) hC rfl ?_; apply Exists.intro; refine ⟨?_, ?_⟩
      · rintro w ⟨r1, r2⟩; go_simp; try with_reducible rfl
      simp only [Act.put, List.setIfInBounds_toArray, List.set_cons_succ, List.set_cons_zero]
      refine Lim.stepR 5 (fun _ => trivial) rfl (by kernel_rfl) (fun _ _ _ _ h => h) hC rfl ?_; apply Exists.intro; refine ⟨?_, ?_⟩
      · rintro w ⟨r1, r2⟩; go_simp; try with_reducible rfl
      simp only [Act.put, List.setIfInBounds_toArray, List.set_cons_succ, List.set_cons_zero]
      refine Lim.stepR 6 (fun _ => trivial) rfl (by kernel_rfl) (fun _ _ _ _ h => h) hC rfl ?_; apply Exists.intro; refine ⟨?_, ?_⟩
      · rintro w ⟨r1, r2⟩; go_simp; try with_reducible rfl
      simp only [Act.put, List.setIfInBounds_toArray, List.set_cons_succ, List.set_cons_zero]
      refine Lim.stepR 7 (fun _ => trivial) rfl (by kernel_rfl) (fun _ _ _ _ h => h) hC rfl ?_; apply Exists.intro; refine ⟨?_, ?_⟩
      · rintro w ⟨r1, r2⟩; go_simp; try with_reducible rfl
      simp only [Act.put, List.setIfInBounds_toArray, List.set_cons_succ, List.set_cons_zero]
      refine Lim.stepR 8 (fun _ => trivial) rfl (by kernel_rfl) (fun _ _ _ _ h => h) hC rfl ?_; apply Exists.intro; refine ⟨?_, ?_⟩
      · rintro w ⟨r1, r2⟩; go_simp; try with_reducible rfl
      simp only [Act.put, List.setIfInBounds_toArray, List.set_cons_succ, List.set_cons_zero]
      refine Lim.stepR 9 (fun _ => trivial) rfl (by kernel_rfl) (fun _ _ _ _ h => h) hC rfl ?_; apply Exists.intro; refine ⟨?_, ?_⟩
      · rintro w ⟨r1, r2⟩; go_simp; try with_reducible rfl
      simp only [Act.put, List.setIfInBounds_toArray, List.set_cons_succ, List.set_cons_zero]
      clear hC
      have H0 : Hid (Gv8 w q4 g1 k F m.wd m.n m.own (fun _ => false) undef undef undef wr.drew) := Lib.hid ⟨HF.out.1.sep (T := fun _ => False) (Sep.drew wr) (fun _ h => h.elim), fun h => (by cases h), fun h => (by cases h), fun h => (by cases h), fun h => (by cases h)⟩
      refine Lim.parC [10, 11, 12, 13] (fun done a W => ∃ x8 x47 x48, a = { tmps := #[.pointer (some ⟨b, 0, none⟩), .slice (some ⟨tb, tf, none⟩) k tc, undef, undef, .pointer (some ⟨q4, 0, none⟩), .slice (some ⟨g1, 0, none⟩) k k, u6, u7, x8, undef, undef, .slice (some ⟨q4 + 1, 0, none⟩) 1 1, .pointer (some ⟨b, 0, none⟩), .pointer (some ⟨b, 0, none⟩), .pointer (some ⟨b, 3, none⟩), .int .i64 k, .slice (some ⟨g1, 0, none⟩) k k, .pointer (some ⟨b, 0, none⟩), .pointer (some ⟨b, 0, none⟩), .pointer (some ⟨b, 2, none⟩), .slice (some ⟨g, 0, none⟩) m.n m.n, .int .i64 m.n, .int .i64 m.n, .bool false, u24, u25, u26, u27, u28, u29, u30, u31, u32, u33, u34, u35, u36, .pointer (some ⟨b, 0, none⟩), .pointer (some ⟨b, 0, none⟩), .pointer (some ⟨b, 0, none⟩), .pointer (some ⟨b, 0, none⟩), .int .i64 m.wd, .pointer (some ⟨b, 0, none⟩), .pointer (some ⟨b, 0, none⟩), .pointer (some ⟨b, 0, none⟩), .pointer (some ⟨b, 1, none⟩), .slice (some ⟨ob, oo, none⟩) m.n oc, x47, x48, undef, undef, undef, undef, undef, undef, undef, undef, undef, undef, undef, undef, undef, undef, undef, undef, undef, undef, undef, undef, undef, undef, undef, undef, undef, undef, undef, undef, undef, undef, undef, undef, undef, undef, undef], defers := [] } ∧ Gv8 w q4 g1 k F m.wd m.n m.own done x8 x47 x48 W) (fun _ => trivial) (by kernel_rfl) rfl rfl ?hC ?step ?fin ⟨_, _, _, rfl, H0.out⟩
      case hC => rintro done a W ⟨_, _, _, _, H⟩; exact ⟨cell_below H.M.be HW.out.c0 HBG.out.1, cell_below H.M.be ho1 HBG.out.1⟩
      case step =>
        clear d0 d1
        intro i o hi ho done a W hd hdep hS K hK
        obtain ⟨x8, x47, x48, rfl, H⟩ := hS
        simp only [List.mem_cons, List.not_mem_nil, or_false] at hi
        rcases hi with rfl | rfl | rfl | rfl
        · cases ho
          have HCL := Lib.hid (clone_any_int (B := B) (w := W) (by have := H.M.be.size; have := HTB.out.2; omega) (HOV.out.below (H.M.be.mono HTB.out.2)) (show m.n = m.os.length from rfl) (by omega))
          clear hdep
          go_simp
          refine ⟨rfl, (callsIn_wide.2 HCL.out).mono ?_⟩
          rintro e W' ⟨v', rfl, hown, hb⟩
          refine hK _ _ ?_
          obtain ⟨g2, cap, rfl, hg2, hR⟩ := RowK.of_owns hown n1
          exact ⟨x8, _, x48, rfl, H.cloned hd hb hg2 hR⟩
        · cases ho
          have h10 := hdep 10 (by kernel_rfl) (by simp)
          obtain ⟨g2, cap, rfl, -, -⟩ := H.d10 h10
          clear hdep
          go_simp
          refine hK _ _ ?_
          exact ⟨x8, _, _, rfl, H.built h10⟩
        · cases ho
          clear hdep
          go_simp
          refine hK _ _ ?_
          exact ⟨_, x47, x48, rfl, H.laid hd⟩
        · cases ho
          have h11 := hdep 11 (by kernel_rfl) (by simp)
          have h12 := hdep 12 (by kernel_rfl) (by simp)
          obtain ⟨h10, rfl⟩ := H.d11 h11
          obtain ⟨g2, cap, rfl, -, -⟩ := H.d10 h10
          obtain ⟨q8, u0, u1, rfl, hq8, hobj, -⟩ := H.d12 h12
          have c0 : W.cell? ⟨q8, 0, none⟩ = some u0 := by simp [World.cell?, hobj]
          have c1 : W.cell? ⟨q8, 1, none⟩ = some u1 := by simp [World.cell?, hobj]
          have f0 : W.frozen? ⟨q8, 0, none⟩ = false := by simp [World.frozen?, hobj]
          have f1 : W.frozen? ⟨q8, 1, none⟩ = false := by simp [World.frozen?, hobj]
          clear hdep
          go_simp
          refine hK _ _ ?_
          exact ⟨_, _, _, rfl, H.stored h11 h12 rfl hobj hq8⟩
      case fin =>
        rintro done a W hall ⟨x8, x47, x48, rfl, H⟩
        obtain ⟨g2, cap, rfl, hg2, hR⟩ := H.d10 (hall 10 (by simp))
        obtain ⟨-, rfl⟩ := H.d11 (hall 11 (by simp))
        obtain ⟨q8, u0, u1, rfl, hq8, hobj, hu⟩ := H.d12 (hall 12 (by simp))
        obtain ⟨rfl, rfl⟩ := hu (hall 13 (by simp))
        have hne : q8 ≠ g2 := fun e => by
          obtain ⟨cur, h4, -⟩ := hR.o
          rw [← e, hobj] at h4
          cases h4
        have M0 : Hid (GvO w q4 g1 k F q8 g2 cap m.wd m.n m.own W) := Lib.hid ⟨H.M, by simp [World.cell?, hobj], by simp [World.cell?, hobj], hR, hq8, hg2, hne⟩
        clear H hR hobj hu hq8 hg2 hne hall H0 d0 d1
        have e2 : W.cell? ⟨b, 2, none⟩ = some (.slice (some ⟨g, 0, none⟩) m.n m.n) := cell_below M0.out.M.be HW.out.c2 HBG.out.1
        go_wp2_with fail
        clear e2
        go_loopw [54] (fun v wr => ∃ t : Nat, t ≤ m.n ∧ v = .int .i64 t ∧ ∃ O : Nat → Int, Hid (GvO w q4 g1 k F q8 g2 cap m.wd m.n O wr ∧ IsGiv m r T O t)) (fun v _ => m.n - (intOf v).toNat)
        case atStart => exact ⟨0, Nat.zero_le _, rfl, _, Lib.hid ⟨M0.out, fun q hq => absurd hq (Nat.not_lt_zero _), fun q hq => absurd hq (Nat.not_lt_zero _), fun _ _ _ => rfl⟩⟩
        case round =>
          clear M0
          obtain ⟨t, ht, rfl, O, hI⟩ := hrel
          by_cases hlt : t < m.n
          · have ht64 : (t : Int) < 100 := by omega
            obtain ⟨rt, hrt⟩ : ∃ rt, rt = r t := ⟨_, rfl⟩
            have hrk : rt < k := by rw [hrt]; exact HM.out.2.2.1.lt t hlt
            have d1 := cell_below hI.out.1.M.be (HW.out.row.c t hlt) HBG.out.2
            rw [← hrt] at d1
            obtain ⟨tv, htv⟩ : ∃ tv, tv = T rt := ⟨_, rfl⟩
            have d2 := cell_below hI.out.1.M.be (HT.out rt hrk) HTB.out.1
            rw [← htv] at d2
            have HRT := Lib.hid (And.intro hrt htv)
            by_cases ht1 : tv = -1
            · have HS : Hid (IsGiv m r T O (t + 1)) := Lib.hid (hI.out.2.skip (by rw [← hrt, ← htv]; exact ht1) hlt)
              subst ht1
              clear hrt htv
              have g1' : ((-1 : Int) != -1) = false := by decide
              go_wp2_with fail
              go_roundw
              case rel => exact ⟨t + 1, by omega, by go_num, O, Lib.hid ⟨hI.out.1, HS.out⟩⟩
              case measure => simp [intOf]; omega
            · have g2' : (tv != -1) = true := by simpa using ht1
              obtain ⟨tN, htN, htk⟩ : ∃ tN : Nat, tv = tN ∧ tN < k := by
                rcases HM.out.2.2.2 rt hrk with h | h
                · exact absurd (htv.trans h) ht1
                · rw [htv]; exact h
              obtain ⟨q0, hq0, hq0n, hq0r⟩ : ∃ q0 : Nat, F tN = q0 ∧ q0 < m.n ∧ r q0 = tN := by
                rcases HF.out.2.2 tN htk with h | h
                · obtain ⟨p, hp, hpr⟩ := HM.out.2.2.1.ex tN htk
                  exact absurd (hpr ▸ h) (HF.out.2.1 p hp)
                · exact h
              obtain ⟨o0, ho0⟩ : ∃ o0, o0 = m.own q0 := ⟨_, rfl⟩
              have HS : Hid (GvO w q4 g1 k F q8 g2 cap m.wd m.n (upd O t o0) (wr.setCell ⟨g2, t, none⟩ (.int .i64 o0)).drew ∧ IsGiv m r T (upd O t o0) (t + 1)) := Lib.hid ⟨(hI.out.1.set hlt o0).drew, by rw [ho0]; exact hI.out.2.set HM.out.2.1 hq0n (by rw [← hrt, ← htv, htN, hq0r]) hlt⟩
              have d3 := hI.out.1.M.row.c tN htk
              rw [hq0] at d3
              have d4 := cell_below hI.out.1.M.be (HOC.out q0 hq0n) (show ob < w.heap.size by have := HOB.out; have := HTB.out.2; omega)
              rw [← ho0] at d4
              have d5 := cell_below hI.out.1.M.be ho1 HBG.out.1
              have e1 := hI.out.1.row.c t hlt
              have e2 := hI.out.1.row.f t hlt
              subst htN
              have hC : (fun W => W.cell? ⟨q8, 1, none⟩ = some (.slice (some ⟨g2, 0, none⟩) m.n cap) ∧ W.cell? ⟨b, 1, none⟩ = some (.slice (some ⟨ob, oo, none⟩) m.n oc) ∧ W.cell? ⟨tb, tf + rt, none⟩ = some (.int .i64 tN) ∧ W.cell? ⟨g1, tN, none⟩ = some (.int .i64 q0) ∧ W.cell? ⟨ob, oo + q0, none⟩ = some (.int .i64 o0)) wr.drew := ⟨hI.out.1.c1, d5, d2, d3, d4⟩
              have hC2 : (fun W => W.cell? ⟨q8, 1, none⟩ = some (.slice (some ⟨g2, 0, none⟩) m.n cap) ∧ W.cell? ⟨b, 1, none⟩ = some (.slice (some ⟨ob, oo, none⟩) m.n oc) ∧ W.cell? ⟨tb, tf + rt, none⟩ = some (.int .i64 tN) ∧ W.cell? ⟨g1, tN, none⟩ = some (.int .i64 q0) ∧ W.cell? ⟨ob, oo + q0, none⟩ = some (.int .i64 o0)) (wr.setCell ⟨g2, t, none⟩ (.int .i64 o0)).drew := ⟨HS.out.1.c1, cell_below HS.out.1.M.be ho1 HBG.out.1, cell_below HS.out.1.M.be (by have := HT.out rt hrk; rw [← htv] at this; exact this) HTB.out.1, by have := HS.out.1.M.row.c tN htk; rw [hq0] at this; exact this, cell_below HS.out.1.M.be (by have := HOC.out q0 hq0n; rw [← ho0] at this; exact this) (show ob < w.heap.size by have := HOB.out; have := HTB.out.2; omega)⟩
              clear hrt htv ht1 hq0 hq0r ho0 d3 d4 d5
              go_wp2_with fail
              refine Lim.regC' (fun W => W.cell? ⟨q8, 1, none⟩ = some (.slice (some ⟨g2, 0, none⟩) m.n cap) ∧ W.cell? ⟨b, 1, none⟩ = some (.slice (some ⟨ob, oo, none⟩) m.n oc) ∧ W.cell? ⟨tb, tf + rt, none⟩ = some (.int .i64 tN) ∧ W.cell? ⟨g1, tN, none⟩ = some (.int .i64 q0) ∧ W.cell? ⟨ob, oo + q0, none⟩ = some (.int .i64 o0)) [] #[false, false, false, false, false, false, false, false, false, false, false, false, false, false, false, false, false, false, false] (by kernel_rfl) rfl ?_
              refine Lim.stepR 0 (fun _ => trivial) rfl (by kernel_rfl) (fun _ _ _ _ h => h) hC rfl ?_; apply Exists.intro; refine ⟨?_, ?_⟩
              · rintro w ⟨r1, r2, r3, r4, r5⟩; go_simp; try with_reducible rfl
              simp only [Act.put, List.setIfInBounds_toArray, List.set_cons_succ, List.set_cons_zero]
              refine Lim.stepR 1 (fun _ => trivial) rfl (by kernel_rfl) (fun _ _ _ _ h => h) hC rfl ?_; apply Exists.intro; refine ⟨?_, ?_⟩
              · rintro w ⟨r1, r2, r3, r4, r5⟩; go_simp; try with_reducible rfl
              simp only [Act.put, List.setIfInBounds_toArray, List.set_cons_succ, List.set_cons_zero]
              refine Lim.stepR 2 (fun _ => trivial) rfl (by kernel_rfl) (fun _ _ _ _ h => h) hC rfl ?_; apply Exists.intro; refine ⟨?_, ?_⟩
              · rintro w ⟨r1, r2, r3, r4, r5⟩; go_simp; try with_reducible rfl
              simp only [Act.put, List.setIfInBounds_toArray, List.set_cons_succ, List.set_cons_zero]
              refine Lim.stepR 3 (fun _ => trivial) rfl (by kernel_rfl) (fun _ _ _ _ h => h) hC rfl ?_; apply Exists.intro; refine ⟨?_, ?_⟩
              · rintro w ⟨r1, r2, r3, r4, r5⟩; go_simp; try with_reducible rfl
              simp only [Act.put, List.setIfInBounds_toArray, List.set_cons_succ, List.set_cons_zero]
              refine Lim.stepR 4 (fun _ => trivial) rfl (by kernel_rfl) (fun _ _ _ _ h => h) hC rfl ?_; apply Exists.intro; refine ⟨?_, ?_⟩
              · rintro w ⟨r1, r2, r3, r4, r5⟩; go_simp; try with_reducible rfl
              simp only [Act.put, List.setIfInBounds_toArray, List.set_cons_succ, List.set_cons_zero]
              refine Lim.stepR 5 (fun _ => trivial) rfl (by kernel_rfl) (fun _ _ _ _ h => h) hC rfl ?_; apply Exists.intro; refine ⟨?_, ?_⟩
              · rintro w ⟨r1, r2, r3, r4, r5⟩; go_simp; try with_reducible rfl
              simp only [Act.put, List.setIfInBounds_toArray, List.set_cons_succ, List.set_cons_zero]
              refine Lim.stepR 6 (fun _ => trivial) rfl (by kernel_rfl) (fun _ _ _ _ h => h) hC rfl ?_; apply Exists.intro; refine ⟨?_, ?_⟩
              · rintro w ⟨r1, r2, r3, r4, r5⟩; go_simp; try with_reducible rfl
              simp only [Act.put, List.setIfInBounds_toArray, List.set_cons_succ, List.set_cons_zero]
              refine Lim.stepR 7 (fun _ => trivial) rfl (by kernel_rfl) (fun _ _ _ _ h => h) hC rfl ?_; apply Exists.intro; refine ⟨?_, ?_⟩
              · rintro w ⟨r1, r2, r3, r4, r5⟩; go_simp; try with_reducible rfl
              simp only [Act.put, List.setIfInBounds_toArray, List.set_cons_succ, List.set_cons_zero]
              refine Lim.stepR 8 (fun _ => trivial) rfl (by kernel_rfl) (fun _ _ _ _ h => h) hC rfl ?_; apply Exists.intro; refine ⟨?_, ?_⟩
              · rintro w ⟨r1, r2, r3, r4, r5⟩; go_simp; try with_reducible rfl
              simp only [Act.put, List.setIfInBounds_toArray, List.set_cons_succ, List.set_cons_zero]
              refine Lim.stepR 9 (fun _ => trivial) rfl (by kernel_rfl) (fun _ _ _ _ h => h) hC rfl ?_; apply Exists.intro; refine ⟨?_, ?_⟩
              · rintro w ⟨r1, r2, r3, r4, r5⟩; go_simp; try with_reducible rfl
              simp only [Act.put, List.setIfInBounds_toArray, List.set_cons_succ, List.set_cons_zero]
              refine Lim.stepR 10 (fun _ => trivial) rfl (by kernel_rfl) (fun _ _ _ _ h => h) hC rfl ?_; apply Exists.intro; refine ⟨?_, ?_⟩
              · rintro w ⟨r1, r2, r3, r4, r5⟩; go_simp; try with_reducible rfl
              simp only [Act.put, List.setIfInBounds_toArray, List.set_cons_succ, List.set_cons_zero]
              refine Lim.stepR 11 (fun _ => trivial) rfl (by kernel_rfl) (fun _ _ _ _ h => h) hC rfl ?_; apply Exists.intro; refine ⟨?_, ?_⟩
              · rintro w ⟨r1, r2, r3, r4, r5⟩; go_simp; try with_reducible rfl
              simp only [Act.put, List.setIfInBounds_toArray, List.set_cons_succ, List.set_cons_zero]
              refine Lim.stepR 12 (fun _ => trivial) rfl (by kernel_rfl) (fun _ _ _ _ h => h) hC rfl ?_; apply Exists.intro; refine ⟨?_, ?_⟩
              · rintro w ⟨r1, r2, r3, r4, r5⟩; go_simp; try with_reducible rfl
              simp only [Act.put, List.setIfInBounds_toArray, List.set_cons_succ, List.set_cons_zero]
              refine Lim.stepR 13 (fun _ => trivial) rfl (by kernel_rfl) (fun _ _ _ _ h => h) hC rfl ?_; apply Exists.intro; refine ⟨?_, ?_⟩
              · rintro w ⟨r1, r2, r3, r4, r5⟩; go_simp; try with_reducible rfl
              simp only [Act.put, List.setIfInBounds_toArray, List.set_cons_succ, List.set_cons_zero]
              refine Lim.stepR 14 (fun _ => trivial) rfl (by kernel_rfl) (fun _ _ _ _ h => h) hC rfl ?_; apply Exists.intro; refine ⟨?_, ?_⟩
              · rintro w ⟨r1, r2, r3, r4, r5⟩; go_simp; try with_reducible rfl
              simp only [Act.put, List.setIfInBounds_toArray, List.set_cons_succ, List.set_cons_zero]
              refine Lim.stepR 15 (fun _ => trivial) rfl (by kernel_rfl) (fun _ _ _ _ h => h) hC rfl ?_; apply Exists.intro; refine ⟨?_, ?_⟩
              · rintro w ⟨r1, r2, r3, r4, r5⟩; go_simp; try with_reducible rfl
              simp only [Act.put, List.setIfInBounds_toArray, List.set_cons_succ, List.set_cons_zero]
              refine Lim.stepR 16 (fun _ => trivial) rfl (by kernel_rfl) (fun _ _ _ _ h => h) hC rfl ?_; apply Exists.intro; refine ⟨?_, ?_⟩
              · rintro w ⟨r1, r2, r3, r4, r5⟩; go_simp; try with_reducible rfl
              simp only [Act.put, List.setIfInBounds_toArray, List.set_cons_succ, List.set_cons_zero]
              refine Lim.stepR 17 (fun _ => trivial) rfl (by kernel_rfl) (fun _ _ _ _ h => h) hC rfl ?_; apply Exists.intro; refine ⟨?_, ?_⟩
              · rintro w ⟨r1, r2, r3, r4, r5⟩; go_simp; try with_reducible rfl
              simp only [Act.put, List.setIfInBounds_toArray, List.set_cons_succ, List.set_cons_zero]
              refine Lim.stepE 18 (fun _ => trivial) rfl (by kernel_rfl) rfl (fun K hK => ?_)   -- E store
              go_simp
              refine hK _ _ hC2 ?_
              simp only [Act.put, List.setIfInBounds_toArray, List.set_cons_succ, List.set_cons_zero]
              refine Lim.stepD (by kernel_rfl) ?_
              clear hC hC2 e1 e2
              go_wp2_with fail
              go_roundw
              case rel => exact ⟨t + 1, by omega, by go_num, _, HS⟩
              case measure => simp [intOf]; omega
          · obtain rfl : t = m.n := by omega
            have HI := Lib.hid hI.out
            have c0 := hI.out.1.c0
            have c1 := hI.out.1.c1
            obtain ⟨a0, a1, a2, a3⟩ := hI.out.1.M.c4
            clear hI
            go_wp2_with fail
            have hne : q4 ≠ g2 := fun e => HI.out.1.lt.2.1.2.1 e.symm
            have hs : Sep (fun x => x = q4) wr ((wr.setCell ⟨q4, 0, none⟩ (.int .i64 m.wd)).setCell ⟨q4, 1, none⟩ (.slice (some ⟨g2, 0, none⟩) m.n cap)) := (Sep.set wr q4 0 _).trans (Sep.set _ q4 1 _)
            have r0 : ((wr.setCell ⟨q4, 0, none⟩ (.int .i64 m.wd)).setCell ⟨q4, 1, none⟩ (.slice (some ⟨g2, 0, none⟩) m.n cap)).cell? ⟨q4, 0, none⟩ = some (.int .i64 m.wd) := by rw [setCell_off _ _ (by omega)]; exact setCell_same _ _ a0
            have r1 : ((wr.setCell ⟨q4, 0, none⟩ (.int .i64 m.wd)).setCell ⟨q4, 1, none⟩ (.slice (some ⟨g2, 0, none⟩) m.n cap)).cell? ⟨q4, 1, none⟩ = some (.slice (some ⟨g2, 0, none⟩) m.n cap) := setCell_same _ _ (by rw [setCell_off _ _ (by omega)]; exact a1)
            refine bodyPost_ret (results_mid (fn := Try.f71) (p := 4) (ty := 25) rfl _ _ q4 0 [_, _] _ rfl (two_range r0 r1) Try.underlying25 rfl Try.infoMap) rfl ?_
            refine ⟨HI.out.1.M.be.trans (hs.below HI.out.1.M.be.size (fun x hx => by rw [hx]; exact HI.out.1.M.lt.1)), _, O, rfl, HI.out.2, ?_⟩
            exact (HI.out.1.row.sep hs (fun e => hne e.symm)).owns HI.out.1.lt.2.1.1
end Go.Proofs.Ytiacgaplhndlnaa
