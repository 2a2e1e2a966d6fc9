/-
  Parts of the proof, in the order in which they build: Collect.
-/
import Derived.Maps.OwnIn
import Derived.Test.YtdgibmgifgdpbaaG9
set_option linter.unusedVariables false
set_option linter.unusedSimpArgs false
namespace Go.Proofs.Ytdgibmgifgdpbaa
open Go.RowKit Go.Shelf
open Lim
attribute [local go_sem] Oper.semAt_some

/-- THE LAW FOR THE CALLER. -/
theorem wp_range_n {P : Program} {g : Operand} {p : Tmp} {assign body : Code} {Q : Exit → Act → World → Prop} {a : Act} {w : World} {gf : Nat} {lb : Array Value} {xs : List Int}
    (hg : a.eval g = .func (.func gf) #[] lb) (eg : ∀ args w, (callFunc gf args).run P w = .ok (.enter gf args) w) (C : World → Prop) (hit : IterAt P gf lb C xs w)
    (I : List Int → World → Prop) (Ix : Code → List Int → World → Prop) (hIC : ∀ s W, I s W → C W) (hC : ∀ W W', C W → Steady w.heap.size W W' → C W')
    (hI : ∀ s W W', I s W → Steady w.heap.size W W' → I s W') (hIx : ∀ c s W W', Ix c s W → Steady w.heap.size W W' → Ix c s W') (h0 : I [] w) (a₁ : Int → Act)
    (hassign : ∀ (l : Nat) (x : Int) (W : World) (K : Act → World → Prop), K (a₁ x) W →
      assign.wpIn (Fence.wide.inRound l) 0 P (Exit.then K (fun _ _ _ => False)) { tmps := a.tmps.setIfInBounds p (.int .i64 x), defers := [] } W)
    (hbody : ∀ (l : Nat) (pre : List Int) (x : Int) (W : World), x ∈ xs → I pre W → pre.length < xs.length + 1 → body.wpIn (Fence.wide.inRound l) 0 P (Lim.roundPost w.heap.size I Ix (pre ++ [x]) W) (a₁ x) W)
    (hdone : ∀ (D : Nat) (W : World), w.heap.size ≤ D → I xs W → W.heap[D]? = some (.deferred (some [])) → Q .normal { a with defers := markOf D :: a.defers } W)
    (hstop : ∀ (D : Nat) (c : Code) (pre : List Int) (W : World), w.heap.size ≤ D → pre <+: xs → Ix c pre W → W.heap[D]? = some (.deferred (some [])) → c.wp P Q { a with defers := markOf D :: a.defers } W) :
    (Code.rangeFunc g #[p] assign body).wp P Q a w := by
  refine (wpIn_wide (n := 2)).1 ?_
  refine wpIn_rangeFunc_ownG (α := { x : Int // x ∈ xs }) rfl (by omega) hg trivial eg (hit (2 - 1)) (fun h k => fun c => k (h c)) ?_ (Below.refl _ _) (fun _ => rfl)
    (fun s W => I (s.map (·.1)) W) (fun c s W => Ix c (s.map (·.1)) W) ?_ ?_ h0 (fun x => a₁ x.1) ?_ ?_ ?_ ?_
  · intro W l o o' hl hk ho _ hc
    exact hC _ _ hc (.putObj W l o o' hl hk ho)
  · intro s W W' row hs hgr hr
    exact hI _ _ _ hs (.of_grownBy hgr hr)
  · intro c s W W' row hs hgr hr
    exact hIx _ _ _ _ hs (.of_grownBy hgr hr)
  · intro l x W K hK
    have := hassign l x.1 W K hK
    simpa using this
  · intro l pre x W hi hlen
    refine wpIn_mono (hbody l (pre.map (·.1)) x.1 W x.2 hi (by simpa using hlen)) ?_
    intro e a' W' hq
    cases e with
    | normal => exact ⟨hq.1, fun _ => hIC _ _ hq.2, by simpa using hq.2⟩
    | ret => exact ⟨hq.1, by simpa using hq.2⟩
    | exit id => exact ⟨hq.1, by simpa using hq.2⟩
    | goto t => exact ⟨hq.1, by simpa using hq.2⟩
    | panic c => exact hq.elim
    | outgrown => exact hq.elim
  · intro D ys W hD hS hi hk
    have hS : ys.map (·.1) = xs := hS
    have hi : I (ys.map (·.1)) W := hi
    exact hdone D W hD (hS ▸ hi) hk
  · intro D c pre W hD hp hi hk
    exact wpIn_wide.2 (hstop D c _ W hD hp hi hk)

theorem owns_setCell {w : World} {base e size : Nat} {v : Value} {n : Nat} {xs : List Value} (h : w.ownsRow base e size v n xs) {p j : Nat} (u : Value) (hp : p < base) : (w.setCell ⟨p, j, none⟩ u).ownsRow base e size v n xs := by
  refine ⟨h.1, ?_⟩
  rcases h.2 with hn | ⟨g, cap, cur, hv, hB, hg, r⟩
  · exact .inl hn
  · exact .inr ⟨g, cap, cur, hv, hB, (Below.heap_setCell w ⟨p, j, none⟩ u g (by show g ≠ p; omega)).trans hg, r⟩
theorem nbrL_le (wd N c : Nat) : (nbrL wd N c).length ≤ 4 := by
  have h1 : (nA (c % wd) c).length ≤ 1 := by unfold nA; split <;> simp
  have h2 : (nB wd (c % wd) c).length ≤ 1 := by unfold nB; split <;> simp
  have h3 : (nC wd c).length ≤ 1 := by unfold nC; split <;> simp
  have h4 : (nD wd N c).length ≤ 1 := by unfold nD; split <;> simp
  simp only [nbrL, nbrK, List.length_append]; omega
set_option maxRecDepth 100000 in
set_option maxHeartbeats 1000000 in
theorem appendSeq_nbr {bw bc b wd N cap c : Nat} {ha : Option Addr} {w : World} (hw0 : 0 < wd) (hwd : wd ≤ 100) (hN : N ≤ 100) (hc : c < 100) (hCw : Cn bw bc b wd N cap c ha w) :
    Calls Try.prog 101 #[.slice none 0 0, .func (.func 102) #[] #[.pointer (some ⟨bw, 0, none⟩), .pointer (some ⟨bc, 0, none⟩)]] w fun e w' =>
      ∃ v, e = .returned v ∧ w'.ownsRow w.heap.size 3 1 v (nbrL wd N c).length (ints (nbrL wd N c)) ∧ Below w.heap.size w w' := by
  have hbs : bw < w.heap.size ∧ bc < w.heap.size ∧ b < w.heap.size := ⟨World.block_lt_of_cell? _ _ hCw.1, World.block_lt_of_cell? _ _ hCw.2.1, World.block_lt_of_cell? _ _ hCw.2.2.1⟩
  refine (callsIn_wide (n := 2)).1 (callsIn_of_wp_marks Try.func101 rfl trivial ?_ rfl)
  simp only [Try.ntmps101, List.size_toArray, List.length_cons, List.length_nil, Nat.reduceAdd, Nat.reduceSub, Array.replicate_succ, Array.replicate_zero, List.push_toArray, List.append_toArray, List.nil_append, List.cons_append]
  refine wpIn_wide.2 ?_
  go_wp2
  have hB0 : Below w.heap.size w (w.alloc (.cells #[.slice none 0 0] 23)) := (Below.refl _ w).alloc (Nat.le_refl _) _
  have hC0 := hCw.below hB0
  have f0 : (w.alloc (.cells #[.slice none 0 0] 23)).cell? ⟨w.heap.size, 0, none⟩ = some (.slice none 0 0) := by simp [go_sem]
  have f1 : (w.alloc (.cells #[.slice none 0 0] 23)).frozen? ⟨w.heap.size, 0, none⟩ = false := by simp [go_sem]
  have hsz : (w.alloc (.cells #[.slice none 0 0] 23)).heap.size = w.heap.size + 1 := by simp
  generalize w.alloc (.cells #[.slice none 0 0] 23) = W0 at hB0 hC0 f0 f1 hsz ⊢
  obtain ⟨i0, hi, hz0, hz1, hz2⟩ := info_parts Try.infoInt
  have HI := Lib.hid (And.intro hi (And.intro hz0 (And.intro hz1 hz2)))
  clear hi hz0 hz1 hz2 hCw
  refine wp_range_n (xs := nbrL wd N c) rfl (enters_of Try.func102 (by kernel_rfl) rfl) (Cn bw bc b wd N cap c ha) (nbr_iter hw0 hwd hN hc hC0)
    (fun pre W => True ∧ Cn bw bc b wd N cap c ha W ∧ (∃ v, W.cell? ⟨w.heap.size, 0, none⟩ = some v ∧ W.frozen? ⟨w.heap.size, 0, none⟩ = false ∧ W.ownsRow (w.heap.size + 1) 3 1 v pre.length (ints pre)) ∧ Below w.heap.size w W)
    (fun _ _ _ => False) (fun _ _ h => h.2.1) (fun _ _ h hs => h.steady hs) ?sI (fun _ _ _ _ h _ => h) ⟨trivial, hC0, ⟨_, f0, f1, World.ownsRow_nil _ _ _ _⟩, hB0⟩ ?a1 ?assign ?body ?done ?stop
  case sI =>
    rintro _ _ _ ⟨h1, h2, ⟨v, h3, h4, h5⟩, h6⟩ hs
    exact ⟨h1, h2.steady hs, ⟨v, hs.cell h3, (hs.frozen h3).trans h4, hs.owns h5⟩, h6.steady hs (by omega) h6.size⟩
  case assign =>
    intro l x W K hK
    gi_wp2
    exact hK
  case stop => rintro _ _ _ _ _ _ h; exact h.elim
  case done =>
    rintro D W hD ⟨h1, h2, ⟨v, h3, h4, h5⟩, h6⟩ hk
    go_wp2
    refine leaves_marks (B := W0.heap.size) _ ⟨[D], rfl, by simp, by simpa using ⟨hD, hk⟩⟩ (fun w' hs => ⟨v, by simp [results, Try.f101], v, rfl, owns_mono (hs.owns h5) (Nat.le_succ _), h6.steady hs (by omega) h6.size⟩)
  case body =>
    rintro l pre x W hx ⟨h1, h2, ⟨v, h3, h4, h5⟩, h6⟩ hlen
    have hle := nbrL_le wd N c
    have hsW : w.heap.size < W.heap.size := World.block_lt_of_cell? _ _ h3
    have H2 := Lib.hid h2
    have H5 := Lib.hid h5
    have H6 := Lib.hid h6
    clear h2 h5 h6 hx
    gi_wp2_with (gi_at_builtin; refine wpListIn_append_own_at _ rfl _ _ 23 rfl (w.heap.size + 1) 3 i0 (.int .i64 0) 1 8 Try.underlying23 HI.out.1 HI.out.2.1 HI.out.2.2.1 HI.out.2.2.2 rfl (by decide) _ _ _ rfl (H5.out.alloc _) ⟨W.heap.size, 0, none⟩ 1 1 [.int .i64 x] rfl rfl (cell_one_new _ _ _) (by simp [Value.oneCell']) (by unfold maxLen; omega) (by omega) (by simp; omega) ?_; intro v' w3 hown3 hgrow _ _; obtain ⟨g', off', cap', hv'⟩ := (ownsQ.of_owns hown3).form (k := pre.length) (by simp [ints]); subst hv'; have hg3 : Hid ((W.alloc (.cells #[.int .i64 x] 3)).grownBy w3 v.ownBlock) := Lib.hid hgrow; clear hgrow; have hq3 : w3.cell? ⟨w.heap.size, 0, none⟩ = some v := hg3.out.cell (cell_al _ h3) (fun e => by have := H5.out.lt _ e.symm; simp at this; omega); have hf3 : w3.frozen? ⟨w.heap.size, 0, none⟩ = false := (hg3.out.frozen_far ⟨w.heap.size, 0, none⟩ (by simp; omega) (fun e => by have := H5.out.lt _ e.symm; simp at this; omega)).trans (frozen_on ((Below.refl _ _).alloc (Nat.le_refl _) _) h3 h4); have H3 := Lib.hid hown3; clear hown3)
    have hk3 : KeepsOthers W (w3.setCell ⟨w.heap.size, 0, none⟩ (.slice (some ⟨g', off', none⟩) (pre.length + 1) cap')) := ((KeepsOthers.alloc W _).trans (keeps_of_owns (ownsQ.of_owns (H5.out.alloc _)) hg3.out)).trans (KeepsOthers.setCell _ _ _)
    have hlt5 : ∀ g, v.ownBlock = some g → w.heap.size + 1 ≤ g := fun g hg => by have := H5.out.lt g hg; omega
    refine ⟨hk3.from _, trivial, ⟨?_, ?_, ?_, ?_⟩, ⟨_, World.cell?_setCell_same' _ _ _ (by rw [hq3]; rfl), by rw [World.frozen?_setCell]; exact hf3, ?_⟩, ?_⟩
    · exact put_cell rfl hg3.out (cell_al _ H2.out.1) (fun g hg => by have := hlt5 g hg; omega) (by omega)
    · exact put_cell rfl hg3.out (cell_al _ H2.out.2.1) (fun g hg => by have := hlt5 g hg; omega) (by omega)
    · exact put_cell rfl hg3.out (cell_al _ H2.out.2.2.1) (fun g hg => by have := hlt5 g hg; omega) (by omega)
    · exact put_cell rfl hg3.out (cell_al _ H2.out.2.2.2) (fun g hg => by have := hlt5 g hg; omega) (by omega)
    · have := owns_setCell H3.out (j := 0) (.slice (some ⟨g', off', none⟩) (pre.length + 1) cap') (Nat.lt_succ_self w.heap.size)
      simpa [ints] using this
    · exact ((H6.out.alloc H6.out.size _).grown hg3.out (by simp; omega) (fun g hg => by have := hlt5 g hg; omega)).setCell (p := ⟨w.heap.size, 0, none⟩) (Nat.le_refl _) _
set_option maxHeartbeats 400000 in
theorem collect_nbr {bw bc b wd N cap c : Nat} {ha : Option Addr} {w : World} (hw0 : 0 < wd) (hwd : wd ≤ 100) (hN : N ≤ 100) (hc : c < 100) (hCw : Cn bw bc b wd N cap c ha w) :
    Calls Try.prog 81 #[.func (.func 102) #[] #[.pointer (some ⟨bw, 0, none⟩), .pointer (some ⟨bc, 0, none⟩)]] w fun e w' =>
      ∃ v, e = .returned v ∧ w'.ownsRow w.heap.size 3 1 v (nbrL wd N c).length (ints (nbrL wd N c)) ∧ Below w.heap.size w w' := by
  have CA := Lib.hid (appendSeq_nbr hw0 hwd hN hc hCw)
  clear hCw
  go_enter Try.func81, Try.ntmps81
  go_wp2_with fail
  refine CA.out.mono ?_
  rintro e w5 ⟨v, rfl, h1, h2⟩
  go_wp2
  go_ret
  exact ⟨v, rfl, h1, h2⟩

end Go.Proofs.Ytdgibmgifgdpbaa
