/-
  Parts of the proof, in the order in which they build: Loop, Rep.
-/
import Derived.RangeFuncNested
import Derived.RangeFuncBound
import Derived.RangeFuncCalls
import Derived.RangeFuncLeaves
import Derived.WalkKit
import Derived.OwnWalkIn
set_option linter.unusedVariables false
set_option linter.unusedSimpArgs false
/-
  Loops over an iterator in plain words: the world's book-keeping of such loops ('Steady'), the law for the caller ('wp_range'), and a function's return behind such loops ('leaves_marks').
-/
namespace Go.Proofs.Ytohjinbgbfggcaa.Lim
open Go Go.RowKit

/-- W' is W, but for blocks at or beyond B that hold no cells; there may be new ones. -/
structure Steady (B : Nat) (W W' : World) : Prop where
  os : W'.os = W.os
  tape : W'.tape = W.tape
  output : W'.output = W.output
  size : W.heap.size ≤ W'.heap.size
  same : ∀ (k : Nat) (o : Obj), W.heap[k]? = some o → (k < B ∨ o.isCells = true) → W'.heap[k]? = some o

theorem Steady.refl (B : Nat) (W : World) : Steady B W W := ⟨rfl, rfl, rfl, Nat.le_refl _, fun _ _ h _ => h⟩
theorem Steady.trans {B : Nat} {a b c : World} (h : Steady B a b) (k : Steady B b c) : Steady B a c :=
  ⟨k.os.trans h.os, k.tape.trans h.tape, k.output.trans h.output, Nat.le_trans h.size k.size, fun i o hi ho => k.same i o (h.same i o hi ho) ho⟩
theorem Steady.mono {B B' : Nat} {W W' : World} (h : Steady B W W') (hB : B' ≤ B) : Steady B' W W' :=
  ⟨h.os, h.tape, h.output, h.size, fun k o hk ho => h.same k o hk (ho.imp (fun h => by omega) id)⟩
theorem Steady.drew (B : Nat) (W : World) : Steady B W W.drew := ⟨rfl, rfl, rfl, Nat.le_refl _, fun _ _ h _ => h⟩
theorem Steady.alloc (B : Nat) (W : World) (o : Obj) : Steady B W (W.alloc o) :=
  ⟨rfl, rfl, rfl, by simp, fun k _ hk _ => (Below.heap_alloc W o k (Array.getElem?_eq_some_iff.1 hk).1).trans hk⟩
theorem Steady.of_grownBy {B : Nat} {W W' : World} {row : Option Nat} (hg : W.grownBy W' row) (hr : ∀ r, row = some r → B ≤ r ∧ ∃ o : Obj, W.heap[r]? = some o ∧ o.isCells = false) : Steady B W W' :=
  ⟨hg.os, hg.tape, hg.output, hg.size, fun k o hk ho => by
    refine (hg.block k (Array.getElem?_eq_some_iff.1 hk).1 (fun e => ?_)).trans hk
    obtain ⟨h1, o', h2, h3⟩ := hr k e.symm
    rw [hk] at h2; cases h2
    rcases ho with ho | ho
    · omega
    · rw [ho] at h3; cases h3⟩
theorem Steady.putObj {B : Nat} (W : World) (l : Nat) (o o' : Obj) (hB : B ≤ l) (hl : W.heap[l]? = some o) (ho : o.isCells = false) : Steady B W (W.putObj l o') :=
  .of_grownBy (grownBy_putObj' W l o') (fun r e => by cases e; exact ⟨hB, o, hl, ho⟩)
theorem Steady.block {B : Nat} {W W' : World} (h : Steady B W W') {k : Nat} {c : Array Value} {t : TypeId} {f : Nat × Nat} (hk : W.heap[k]? = some (.cells c t f)) : W'.heap[k]? = some (.cells c t f) := h.same k _ hk (.inr rfl)
theorem Steady.cell {B : Nat} {W W' : World} (h : Steady B W W') {a : Addr} {v : Value} (hc : W.cell? a = some v) : W'.cell? a = some v := by
  obtain ⟨o, ho, hk⟩ := cells_of_cell hc
  exact (World.cell?_of_block (w := W) ((h.same _ _ ho (.inr hk)).trans ho.symm)).trans hc
theorem Steady.frozen {B : Nat} {W W' : World} (h : Steady B W W') {a : Addr} {v : Value} (hc : W.cell? a = some v) : W'.frozen? a = W.frozen? a := by
  obtain ⟨o, ho, hk⟩ := cells_of_cell hc
  exact World.frozen?_of_block (w := W) ((h.same _ _ ho (.inr hk)).trans ho.symm)
theorem _root_.Go.RowKit.Below.steady {B B' : Nat} {w W W' : World} (hb : Below B w W) (h : Steady B' W W') (hB : B ≤ B') (hW : B ≤ W.heap.size) : Below B w W' :=
  hb.trans ⟨h.os, h.tape, h.output, h.size, fun k hk => by
    have hlt : k < W.heap.size := by omega
    have := h.same k _ (Array.getElem?_eq_getElem hlt) (.inl (by omega))
    rw [this, Array.getElem?_eq_getElem hlt]⟩
theorem Steady.owns {B : Nat} {W W' : World} {base e size : Nat} {v : Value} {n : Nat} {xs : List Value} (h : Steady B W W') (ho : W.ownsRow base e size v n xs) : W'.ownsRow base e size v n xs := by
  refine ⟨ho.1, ?_⟩
  rcases ho.2 with hn | ⟨g, cap, cur, hv, hb, hg, r⟩
  · exact .inl hn
  · exact .inr ⟨g, cap, cur, hv, hb, h.block hg, r⟩

/-- an iterator's contract: it hands over the numbers xs, in order, to whatever loop keeps C -/
def IterAt (P : Program) (gf : Nat) (lb : Array Value) (C : World → Prop) (xs : List Int) (w : World) : Prop :=
  ∀ n, SeqStopsK (α := { x : Int // x ∈ xs }) Fence.wide n P gf lb (fun x => #[.int .i64 x.1]) (fun W W' => C W → C W') (fun ys => ys.map (·.1) = xs) (fun pre => pre.map (·.1) <+: xs) (xs.length + 1) w

def markOf (D : Nat) : Deferred := { target := .collected D, args := #[] }

/-- how a round may be left -/
def roundPost (B : Nat) (I : List Int → World → Prop) (Ix : Code → List Int → World → Prop) (xs : List Int) (W : World) : Exit → Act → World → Prop
  | .normal, _, W' => KeepsFrom B W W' ∧ I xs W'
  | .ret, _, W' => KeepsFrom B W W' ∧ Ix .ret xs W'
  | .exit id, _, W' => KeepsFrom B W W' ∧ Ix (.exit id) xs W'
  | .goto t, _, W' => KeepsFrom B W W' ∧ Ix (.goto t) xs W'
  | .panic _, _, _ => False
  | .outgrown, _, _ => False

/-- THE LAW FOR THE CALLER. -/
theorem wp_range {P : Program} {g : Operand} {p : Tmp} {assign body : Code} {Q : Exit → Act → World → Prop} {a : Act} {w : World} {gf : Nat} {lb : Array Value} {xs : List Int}
    (hg : a.eval g = .func (.func gf) #[] lb) (eg : ∀ args w, (callFunc gf args).run P w = .ok (.enter gf args) w) (C : World → Prop) (hit : IterAt P gf lb C xs w)
    (I : List Int → World → Prop) (Ix : Code → List Int → World → Prop) (hIC : ∀ s W, I s W → C W) (hC : ∀ W W', C W → Steady w.heap.size W W' → C W')
    (hI : ∀ s W W', I s W → Steady w.heap.size W W' → I s W') (hIx : ∀ c s W W', Ix c s W → Steady w.heap.size W W' → Ix c s W') (h0 : I [] w) (a₁ : Int → Act)
    (hassign : ∀ (l : Nat) (x : Int) (W : World) (K : Act → World → Prop), K (a₁ x) W →
      assign.wpIn (Fence.wide.inRound l) 0 P (Exit.then K (fun _ _ _ => False)) { tmps := a.tmps.setIfInBounds p (.int .i64 x), defers := [] } W)
    (hbody : ∀ (l : Nat) (pre : List Int) (x : Int) (W : World), x ∈ xs → I pre W → body.wpIn (Fence.wide.inRound l) 0 P (roundPost w.heap.size I Ix (pre ++ [x]) W) (a₁ x) W)
    (hdone : ∀ (D : Nat) (W : World), w.heap.size ≤ D → I xs W → W.heap[D]? = some (.deferred (some [])) → Q .normal { a with defers := markOf D :: a.defers } W)
    (hstop : ∀ (D : Nat) (c : Code) (pre : List Int) (W : World), w.heap.size ≤ D → pre <+: xs → Ix c pre W → W.heap[D]? = some (.deferred (some [])) → c.wp P Q { a with defers := markOf D :: a.defers } W) :
    (Code.rangeFunc g #[p] assign body).wp P Q a w := by
  refine (wpIn_wide (n := 2)).1 ?_
  refine wpIn_rangeFunc_ownG (α := { x : Int // x ∈ xs }) rfl (by omega) hg trivial eg (hit (2 - 1)) (fun h k => fun c => k (h c)) ?_ (Below.refl _ _) (fun _ => rfl)
    (fun s W => I (s.map (·.1)) W) (fun c s W => Ix c (s.map (·.1)) W) ?_ ?_ h0 (fun x => a₁ x.1) ?_ ?_ ?_ ?_
  · intro W l o o' hl hk ho _ hc
    exact hC _ _ hc (.putObj W l o o' hl hk ho)
  · intro s W W' row hs hgr hr
    exact hI _ _ _ hs (.of_grownBy hgr hr)
  · intro c s W W' row hs hgr hr
    exact hIx _ _ _ _ hs (.of_grownBy hgr hr)
  · intro l x W K hK
    have := hassign l x.1 W K hK
    simpa using this
  · intro l pre x W hi _
    refine wpIn_mono (hbody l (pre.map (·.1)) x.1 W x.2 hi) ?_
    intro e a' W' hq
    cases e with
    | normal => exact ⟨hq.1, fun _ => hIC _ _ hq.2, by simpa using hq.2⟩
    | ret => exact ⟨hq.1, by simpa using hq.2⟩
    | exit id => exact ⟨hq.1, by simpa using hq.2⟩
    | goto t => exact ⟨hq.1, by simpa using hq.2⟩
    | panic c => exact hq.elim
    | outgrown => exact hq.elim
  · intro D ys W hD hS hi hk
    have hS : ys.map (·.1) = xs := hS
    have hi : I (ys.map (·.1)) W := hi
    exact hdone D W hD (hS ▸ hi) hk
  · intro D c pre W hD hp hi hk
    exact wpIn_wide.2 (hstop D c _ W hD hp hi hk)

/-- the marks that such loops leave on an activation -/
def Marks (B : Nat) (ds : List Deferred) (w : World) : Prop := ∃ Ds : List Nat, ds = Ds.map markOf ∧ Ds.Nodup ∧ ∀ D ∈ Ds, B ≤ D ∧ w.heap[D]? = some (.deferred (some []))
theorem Marks.nil (B : Nat) (w : World) : Marks B [] w := ⟨[], rfl, by simp, by simp⟩
theorem Marks.cons {B : Nat} {ds : List Deferred} {w : World} (h : Marks B ds w) {D : Nat} (hB : B ≤ D) (hD : w.heap[D]? = some (.deferred (some []))) (hn : ∀ d ∈ ds, d ≠ markOf D) : Marks B (markOf D :: ds) w := by
  obtain ⟨Ds, h1, h2, h3⟩ := h
  refine ⟨D :: Ds, by simp [h1], ?_, ?_⟩
  · refine List.nodup_cons.2 ⟨fun hm => ?_, h2⟩
    exact hn (markOf D) (by rw [h1]; exact List.mem_map.2 ⟨D, hm, rfl⟩) rfl
  · intro D' hD'
    rcases List.mem_cons.1 hD' with rfl | hm
    · exact ⟨hB, hD⟩
    · exact h3 D' hm

theorem leaves_marks {P : Program} {fn : Func} {tmps : Array Value} {R : Ending → World → Prop} {n B : Nat} {ds : List Deferred} : ∀ (w : World), Marks B ds w →
    (∀ w', Steady B w w' → ∃ v, (results fn tmps).run P w' = .ok v w' ∧ R (.returned v) w') → LeavesInM Fence.wide n P fn tmps R ds .returning w := by
  induction ds with
  | nil =>
    intro w _ hR
    obtain ⟨v, h1, h2⟩ := hR w (.refl B w)
    exact ⟨v, h1, h2⟩
  | cons d ds ih =>
    intro w hm hR
    obtain ⟨Ds, h1, h2, h3⟩ := hm
    cases Ds with
    | nil => cases h1
    | cons D Ds =>
      simp only [List.map_cons, List.cons.injEq] at h1
      obtain ⟨rfl, rfl⟩ := h1
      have hD := h3 D (by simp)
      refine ⟨by simp, .inl ⟨D, _, rfl, run_takeDeferred hD.2, ?_⟩⟩
      refine ih _ ⟨Ds, rfl, (List.nodup_cons.1 h2).2, fun E hE => ⟨(h3 E (by simp [hE])).1, ?_⟩⟩ (fun w' hs => hR w' (Steady.trans (.putObj w D _ _ hD.1 hD.2 rfl) hs))
      refine (World.putObj_heap_other ?_).trans (h3 E (by simp [hE])).2
      intro e
      exact (List.nodup_cons.1 h2).1 (e ▸ hE)

end Go.Proofs.Ytohjinbgbfggcaa.Lim
/-
  What lies in memory, in plain words: slices that are only read ('RS'), lists of numbers and of spans as cells.
-/
namespace Go.Proofs.Ytohjinbgbfggcaa.Lim
open Go Go.RowKit

def ints (l : List Int) : List Value := l.map (Value.int .i64)
def spans (l : List (Int × Int)) : List Value := l.flatMap fun s => [Value.int .i64 s.1, Value.int .i64 s.2]
theorem ints_at (l : List Int) (k : Nat) (h : k < l.length) : (ints l)[k]? = some (.int .i64 l[k]) := by simp [ints, h]
theorem ints_at' (l : List Int) (k : Nat) (h : k < l.length) : (ints l)[k]? = some (.int .i64 (l[k]?.getD 0)) := by simp [ints, h]
theorem ints_ne {l : List Int} (h : 0 < l.length) : ints l ≠ [] := by cases l <;> simp_all [ints]
theorem spans_length (l : List (Int × Int)) : (spans l).length = l.length * 2 := by
  induction l with
  | nil => rfl
  | cons s l ih => simp [spans] at ih ⊢; omega
theorem spans_cons (s : Int × Int) (l : List (Int × Int)) : spans (s :: l) = .int .i64 s.1 :: .int .i64 s.2 :: spans l := by simp [spans]
theorem spans_lo (l : List (Int × Int)) : ∀ (k : Nat) (h : k < l.length), (spans l)[k * 2]? = some (.int .i64 l[k].1) := by
  induction l with
  | nil => intro k h; simp at h
  | cons s l ih =>
    intro k h
    rw [spans_cons]
    cases k with
    | zero => simp
    | succ k =>
      have := ih k (by simpa using h)
      rw [show (k + 1) * 2 = k * 2 + 1 + 1 from by omega]
      simpa using this
theorem spans_hi (l : List (Int × Int)) : ∀ (k : Nat) (h : k < l.length), (spans l)[k * 2 + 1]? = some (.int .i64 l[k].2) := by
  induction l with
  | nil => intro k h; simp at h
  | cons s l ih =>
    intro k h
    rw [spans_cons]
    cases k with
    | zero => simp
    | succ k =>
      have := ih k (by simpa using h)
      rw [show (k + 1) * 2 + 1 = k * 2 + 1 + 1 + 1 from by omega]
      simpa using this
theorem spans_ne {l : List (Int × Int)} (h : 0 < l.length) : spans l ≠ [] := by cases l <;> simp_all [spans]

/-- a slice of n elements that is only read: its cells xs lie in a block below B -/
def RS (B : Nat) (w : World) (v : Value) (n : Nat) (xs : List Value) : Prop :=
  ∃ a cap, v = .slice a n cap ∧ (xs ≠ [] → ∃ b off, a = some ⟨b, off, none⟩ ∧ b < B ∧ ∀ j u, xs[j]? = some u → w.cell? ⟨b, off + j, none⟩ = some u)
theorem RS.nil (B : Nat) (w : World) : RS B w (.slice none 0 0) 0 [] := ⟨none, 0, rfl, fun h => absurd rfl h⟩
theorem RS.mono {B B' : Nat} {w : World} {v : Value} {n : Nat} {xs : List Value} (h : RS B w v n xs) (hB : B ≤ B') : RS B' w v n xs := by
  obtain ⟨a, cap, hv, h⟩ := h
  exact ⟨a, cap, hv, fun hne => let ⟨b, off, h1, h2, h3⟩ := h hne; ⟨b, off, h1, by omega, h3⟩⟩
theorem RS.below {B : Nat} {w w' : World} {v : Value} {n : Nat} {xs : List Value} (h : RS B w v n xs) (hb : Below B w w') : RS B w' v n xs := by
  obtain ⟨a, cap, hv, h⟩ := h
  exact ⟨a, cap, hv, fun hne => let ⟨b, off, h1, h2, h3⟩ := h hne; ⟨b, off, h1, h2, fun j u hj => (hb.cell (p := ⟨b, off + j, none⟩) h2).trans (h3 j u hj)⟩⟩
/-- a slice that the call itself made is one that can be read -/
theorem RS.of_owns {w : World} {base e size : Nat} {v : Value} {n : Nat} {xs : List Value} (h : w.ownsRow base e size v n xs) : RS w.heap.size w v n xs := by
  rcases h.2 with ⟨rfl, rfl⟩ | ⟨g, cap, cur, rfl, hb, hg, hn, hm, hs, ht⟩
  · exact ⟨none, 0, rfl, fun hne => by have := h.1; simp at this; exact absurd this hne⟩
  · refine ⟨some ⟨g, 0, none⟩, cap, rfl, fun _ => ⟨g, 0, rfl, (Array.getElem?_eq_some_iff.1 hg).1, fun j u hj => ?_⟩⟩
    have := h.cells (g := g) rfl j u hj
    have e : (⟨g, 0, none⟩ : Addr).add j = ⟨g, 0 + j, none⟩ := by unfold Addr.add; split <;> simp_all
    rw [e] at this
    exact this

/-- what the call itself made stays what it is while only new memory is laid -/
theorem owns_below {w w' : World} {base e size : Nat} {v : Value} {n : Nat} {xs : List Value} (h : w.ownsRow base e size v n xs) (hb : Below w.heap.size w w') : w'.ownsRow base e size v n xs := by
  refine ⟨h.1, ?_⟩
  rcases h.2 with hn | ⟨g, cap, cur, hv, hB, hg, r⟩
  · exact .inl hn
  · exact .inr ⟨g, cap, cur, hv, hB, (hb.block g (Array.getElem?_eq_some_iff.1 hg).1).trans hg, r⟩
theorem owns_mono {w : World} {base base' e size : Nat} {v : Value} {n : Nat} {xs : List Value} (h : w.ownsRow base e size v n xs) (hb : base' ≤ base) : w.ownsRow base' e size v n xs := by
  refine ⟨h.1, ?_⟩
  rcases h.2 with hn | ⟨g, cap, cur, hv, hB, hg, r⟩
  · exact .inl hn
  · exact .inr ⟨g, cap, cur, hv, Nat.le_trans hb hB, hg, r⟩
theorem ints_map_snoc {α : Type} (l : List α) (f : α → Int) (k : Nat) (h : k < l.length) : ints ((l.take (k + 1)).map f) = ints ((l.take k).map f) ++ [.int .i64 (f l[k])] := by
  rw [List.take_succ_eq_append_getElem h]; unfold ints; rw [List.map_append, List.map_append]; rfl

theorem cell_on {w w' : World} (hb : Below w.heap.size w w') {a : Addr} {v : Value} (hc : w.cell? a = some v) : w'.cell? a = some v := (hb.cell (World.block_lt_of_cell? _ _ hc)).trans hc
theorem frozen_on {w w' : World} (hb : Below w.heap.size w w') {a : Addr} {v : Value} (hc : w.cell? a = some v) (hf : w.frozen? a = false) : w'.frozen? a = false := (hb.frozen (World.block_lt_of_cell? _ _ hc)).trans hf

theorem cell_al {w : World} (o : Obj) {a : Addr} {v : Value} (hc : w.cell? a = some v) : (w.alloc o).cell? a = some v := cell_on ((Below.refl _ w).alloc (Nat.le_refl _) o) hc

/-- a point on which two worlds agree below B is read alike -/
theorem cell_below {B : Nat} {w w' : World} (h : Below B w w') {a : Addr} {v : Value} (hc : w.cell? a = some v) (hB : a.block < B) : w'.cell? a = some v := (h.cell hB).trans hc

end Go.Proofs.Ytohjinbgbfggcaa.Lim
