/-
  Parts of the proof, in the order in which they build: Del, Wo, Wr.
-/
import Derived.Deep.RegionLaw
import Derived.Lib.SliceRun
import Derived.Shelf.SlicesE.Delete
import Derived.Test.YtohjinbgbfggcaaA8
import Derived.Test.YtohjinbgbfggcaaA9
import Derived.Test.YtohjinbgbfggcaaB10
import Derived.Test.YtohjinbgbfggcaaA4
set_option linter.unusedVariables false
set_option linter.unusedSimpArgs false
/-
  slices.Delete of one span out of a list that the call itself made.
-/
namespace Go.Proofs.Ytohjinbgbfggcaa
open Go.RowKit Go.Shelf
open Lim

theorem spans_append' (l l' : List (Int × Int)) : spans (l ++ l') = spans l ++ spans l' := by unfold spans; rw [List.flatMap_append]
theorem grown_setCells {w : World} {g : Nat} : ∀ (vs : List Value) (o : Nat) (w1 : World), w.grownBy w1 (some g) → w.grownBy (w1.setCells g o vs) (some g)
  | [], _, _, h => h
  | v :: vs, o, w1, h => grown_setCells vs (o + 1) _ ⟨h.os, h.tape, h.output, by simp [World.setCell]; exact h.size, fun k hk hne => by
      rw [Below.heap_setCell _ _ _ k (fun e => hne (by rw [e]))]
      exact h.block k hk hne⟩
theorem erase_spans (L : List (Int × Int)) (i : Nat) : spans (L.eraseIdx i) = spans (L.take i) ++ spans (L.drop (i + 1)) := by
  rw [List.eraseIdx_eq_take_drop_succ, spans_append']
theorem zero_span (w : World) : (zeroValue 28).run Try.prog w = .ok (.agg #[.int .i64 0, .int .i64 0]) w := by kernel_rfl
/-- clear of one span -/
theorem clear_span (w : World) (ty : TypeId) (b o c : Nat) (hc : ∀ j, j < 2 → (w.cell? ⟨b, o + j, none⟩).isSome = true) (hf : ∀ j, j < 2 → w.frozen? ⟨b, o + j, none⟩ = false) :
    (Builtin.clear_ #[26] ty #[.slice (some ⟨b, o, none⟩) 1 c]).run Try.prog w = .ok (.tuple #[]) (w.setCells b o [.int .i64 0, .int .i64 0]) := by
  have hzc : (Builtin.zeroCells (Value.agg #[.int .i64 0, .int .i64 0]).cells 1).toList = [.int .i64 0, .int .i64 0] := by kernel_rfl
  have hst := run_storeCells_cells (P := Try.prog) b o [.int .i64 0, .int .i64 0] 0 w (by simpa using hc) (by simpa using hf) (by intro v hv'; simp at hv'; subst hv'; rfl)
  simp only [Nat.add_zero] at hst
  simp [Builtin.clear_, run_underlying Try.underlying26, zero_span, hzc, hst]
set_option maxRecDepth 1000000 in
set_option maxHeartbeats 2000000 in
theorem delS_any {base n cap g i : Nat} {L : List (Int × Int)} {w : World} (hn : n ≤ 1000) (hi : i < n) (hL : n = L.length) (h : w.ownsRow base 28 2 (.slice (some ⟨g, 0, none⟩) n cap) n (spans L)) :
    Calls Try.prog 88 #[.slice (some ⟨g, 0, none⟩) n cap, .int .i64 i, .int .i64 ((i + 1 : Nat) : Int)] w fun e w' => e = .returned (.slice (some ⟨g, 0, none⟩) (n - 1) cap) ∧ w'.ownsRow base 28 2 (.slice (some ⟨g, 0, none⟩) (n - 1) cap) (n - 1) (spans (L.eraseIdx i)) ∧ w.grownBy w' (some g) := by
  have hcap : n ≤ cap := by
    rcases h.2 with ⟨e, -⟩ | ⟨g', cap', cur, e, -, -, h4, -⟩
    · cases e
    · cases e; exact h4
  obtain ⟨j, hj⟩ : ∃ j, j = i + 1 := ⟨_, rfl⟩
  obtain ⟨m, hm⟩ : ∃ m, m = n - j := ⟨_, rfl⟩
  obtain ⟨news, hnews⟩ : ∃ news, news = spans (L.drop j) := ⟨_, rfl⟩
  have hlen : news.length = m * 2 := by rw [hnews, spans_length, List.length_drop]; omega
  have hcell : ∀ t, t < n * 2 → w.cell? ⟨g, t, none⟩ = (spans L)[t]? := fun t ht => h.cellAt t ht
  have hsome : ∀ t, t < n * 2 → (w.cell? ⟨g, t, none⟩).isSome = true := fun t ht => by
    rw [hcell t ht, List.getElem?_eq_getElem (by rw [spans_length]; omega)]; rfl
  have hfz : ∀ t, w.frozen? ⟨g, t, none⟩ = false := fun t => h.frozenAt t
  obtain ⟨A, hA, hsrc⟩ : ∃ A : Addr, (if cap = j then some (⟨g, 0, none⟩ : Addr) else some ⟨g, j * 2, none⟩) = some A ∧ Hid (∀ t u, news[t]? = some u → w.drew.cell? (A.add t) = some u) := by
    by_cases hc : cap = j
    · refine ⟨⟨g, 0, none⟩, by rw [if_pos hc], Lib.hid (fun t u hu => ?_)⟩
      have := (List.getElem?_eq_some_iff.1 hu).1
      omega
    · refine ⟨⟨g, j * 2, none⟩, by rw [if_neg hc], Lib.hid (fun t u hu => ?_)⟩
      have ht := (List.getElem?_eq_some_iff.1 hu).1
      have e : (⟨g, j * 2, none⟩ : Addr).add t = ⟨g, j * 2 + t, none⟩ := by rw [Addr.add_lit]
      rw [e]
      show w.cell? _ = _
      rw [hcell _ (by omega), ← hu, hnews]
      have e2 : spans L = spans (L.take j) ++ spans (L.drop j) := by rw [← spans_append', List.take_append_drop]
      rw [e2, List.getElem?_append_right (by rw [spans_length, List.length_take]; omega)]
      congr 1
      rw [spans_length, List.length_take]
      omega
  have s1 : Hid (news.length = m * 2) := Lib.hid hlen
  have s2 : Hid (∀ u ∈ news, u.oneCell' = true) := Lib.hid (by rw [hnews]; exact spans_one _)
  have s3 : Hid (∀ t, t < news.length → (w.drew.cell? ⟨g, 0 + i * 2 + t, none⟩).isSome = true ∧ w.drew.frozen? ⟨g, 0 + i * 2 + t, none⟩ = false) := Lib.hid (fun t ht => by
    rw [Nat.zero_add]
    exact ⟨hsome _ (by omega), hfz _⟩)
  obtain ⟨W1, hW1⟩ : ∃ W1, W1 = w.drew.setCells g (0 + i * 2) news := ⟨_, rfl⟩
  have hat : ∀ t, W1.cell? ⟨g, t, none⟩ = if i * 2 ≤ t ∧ t < i * 2 + m * 2 then news[t - i * 2]? else w.cell? ⟨g, t, none⟩ := fun t => by
    rw [hW1, Nat.zero_add, setCells_at news w.drew g (i * 2) t (fun x hx => hsome _ (by omega)), hlen]; rfl
  obtain ⟨ys1, ho1⟩ := setCells_owned news (0 + i * 2) w.drew (spans L) h
  rw [← hW1] at ho1
  have hsome1 : ∀ t, t < n * 2 → (W1.cell? ⟨g, t, none⟩).isSome = true := fun t ht => by
    rw [ho1.cellAt t ht, List.getElem?_eq_getElem (by rw [ho1.1]; exact ht)]; rfl
  have hcl : ∀ ty, (Builtin.clear_ #[26] ty #[.slice (some ⟨g, (n - 1) * 2, none⟩) 1 (cap - (n - 1))]).run Try.prog W1 = .ok (.tuple #[]) (W1.setCells g ((n - 1) * 2) [.int .i64 0, .int .i64 0]) :=
    fun ty => clear_span W1 ty g ((n - 1) * 2) _ (fun t ht => hsome1 _ (by omega)) (fun t ht => ho1.frozenAt _)
  have HF : Hid ((W1.setCells g ((n - 1) * 2) [.int .i64 0, .int .i64 0]).ownsRow base 28 2 (.slice (some ⟨g, 0, none⟩) (n - 1) cap) (n - 1) (spans (L.eraseIdx i)) ∧ w.grownBy (W1.setCells g ((n - 1) * 2) [.int .i64 0, .int .i64 0]) (some g)) := Lib.hid (by
    obtain ⟨ys2, ho2⟩ := setCells_owned [.int .i64 0, .int .i64 0] ((n - 1) * 2) W1 ys1 ho1
    refine ⟨?_, ?_⟩
    · have hy : ys2.take ((n - 1) * 2) = spans (L.eraseIdx i) := by
        refine List.ext_getElem? (fun t => ?_)
        by_cases ht : t < (n - 1) * 2
        · rw [List.getElem?_take_of_lt ht, ← ho2.cellAt t (by omega), setCells_at _ _ _ _ _ (fun x hx => hsome1 _ (by simp at hx; omega)), if_neg (by omega), hat, erase_spans]
          by_cases hti : t < i * 2
          · rw [if_neg (by omega), hcell t (by omega), List.getElem?_append_left (by rw [spans_length, List.length_take]; omega)]
            have e2 : spans L = spans (L.take i) ++ spans (L.drop i) := by rw [← spans_append', List.take_append_drop]
            rw [e2, List.getElem?_append_left (by rw [spans_length, List.length_take]; omega)]
          · rw [if_pos (by omega), List.getElem?_append_right (by rw [spans_length, List.length_take]; omega), hnews, hj]
            congr 1
            rw [spans_length, List.length_take]; omega
        · rw [List.getElem?_eq_none (by rw [List.length_take]; omega), List.getElem?_eq_none (by rw [spans_length, List.length_eraseIdx_of_lt (by omega)]; omega)]
      rcases ho2.2 with ⟨e, -⟩ | ⟨g', cap', cur, e, h1, h2, h3, h4, h5, h6⟩
      · cases e
      · cases e
        refine ⟨by rw [spans_length, List.length_eraseIdx_of_lt (by omega)]; omega, .inr ⟨g, cap, cur, rfl, h1, h2, by omega, h4, h5, ?_⟩⟩
        rw [← hy, ← h6, List.take_take]
        congr 1
        omega
    · rw [hW1]
      exact grown_setCells _ _ _ (grown_setCells _ _ _ ⟨rfl, rfl, rfl, Nat.le_refl _, fun _ _ _ => rfl⟩))
  obtain ⟨i0, hi0, -, hz1, -⟩ := info_parts Try.infoSpan
  have hI := Lib.hid (And.intro hi0 hz1)
  clear hi0 hz1
  have hW : Hid (W1 = w.drew.setCells g (0 + i * 2) news) := Lib.hid hW1
  have hjn : j ≤ n := by omega
  have hic : i ≤ cap := by omega
  have hjc : j ≤ cap := by omega
  have hij : ¬ i = j := by omega
  have hij2 : i ≤ j := by omega
  have e1 : i + m = n - 1 := by omega
  have e3 : n - (n - 1) = 1 := by omega
  have e4 : ¬ cap = n - 1 := by omega
  have e5 : n - 1 ≤ cap := by omega
  have e6 : n - 1 ≤ n := by omega
  clear hW1 ho1 hsome1 hsome hfz hcell hnews hlen hat h
  rw [← hj]
  have HJ := Lib.hid (And.intro hj hL)
  have mixed : Try.prog.follows Departure.mixedOrders = true := by kernel_rfl
  have HM : Hid (n - j = m) := Lib.hid hm.symm
  clear hj hL hm
  go_enter Try.func88, Try.ntmps88
  go_wp2_with fail
  go_region_law_o (refine step_append_room rfl (.tmp 22) (.tmp 25) 26 rfl 28 i0 2 Try.underlying26 hI.out.1 hI.out.2 g 0 i cap (by simp [Act.eval, Act.put]) A m (cap - j) news (by simp [Act.eval, Act.put]; exact HM.out) s1.out hsrc.out s2.out (by omega) s3.out ?_; rw [← hW.out])
  go_wp2
  go_ret
  exact ⟨rfl, HF.out⟩
end Go.Proofs.Ytohjinbgbfggcaa
/-
  Finds without a stone: the contract of without.
-/
namespace Go.Proofs.Ytohjinbgbfggcaa
open Go.RowKit Go.Shelf
open Lim
attribute [local go_sem] Oper.semAt_some

/-- the gaps without stone k -/
def woF (fs : List (Int × Int)) (k : Nat) : List (Int × Int) :=
  if k = 0 then fs.drop 1 else if k = fs.length then fs.take (fs.length - 1) else (fs.set (k - 1) ((fs.getD (k - 1) (0, 0)).1 + (fs.getD k (0, 0)).1, (fs.getD (k - 1) (0, 0)).2 + (fs.getD k (0, 0)).2)).eraseIdx k
/-- what lies in memory while the parts are laid -/
structure WoS (w0 : World) (k : Nat) (fs : List (Int × Int)) (ms : List Int) (done : Nat → Bool) (x9 x12 x16 x17 x5 : Value) (W : World) : Prop where
  be : Below w0.heap.size w0 W
  d2 : done 2 = true → W.ownsRow w0.heap.size 28 2 x9 fs.length (spans fs)
  d5 : done 5 = true → done 9 = false → W.ownsRow w0.heap.size 3 1 x12 ms.length (ints ms)
  d9 : done 9 = true → W.ownsRow w0.heap.size 3 1 x16 (ms.eraseIdx k).length (ints (ms.eraseIdx k))
  d10 : done 10 = true → x17 = .agg #[x9, x16] ∧ done 2 = true ∧ done 9 = true
  d11 : done 11 = true → ∃ p, x5 = .pointer (some ⟨p, 0, none⟩) ∧ w0.heap.size ≤ p ∧ W.heap[p]? = some (.cells (if done 12 = true then #[x9, x16] else #[.slice none 0 0, .slice none 0 0]) 90 (0, 0))
  w12 : done 12 = true → done 2 = true ∧ done 9 = true ∧ done 10 = true ∧ done 11 = true
section
variable {w0 : World} {k : Nat} {fs : List (Int × Int)} {ms : List Int} {done : Nat → Bool} {x9 x12 x16 x17 x5 v : Value} {W W' : World}
theorem WoS.n12 (h : WoS w0 k fs ms done x9 x12 x16 x17 x5 W) (hd : done 2 = false ∨ done 9 = false ∨ done 10 = false ∨ done 11 = false) : done 12 = false := by
  cases e : done 12 with
  | false => rfl
  | true =>
    obtain ⟨h1, h2, h3, h4⟩ := h.w12 e
    rw [h1, h2, h3, h4] at hd
    simp at hd
theorem WoS.s2 (h : WoS w0 k fs ms done x9 x12 x16 x17 x5 W) (hd : done 2 = false) (ho : W'.ownsRow W.heap.size 28 2 v fs.length (spans fs)) (hb : Below W.heap.size W W') :
    WoS w0 k fs ms (fun j => if j = 2 then true else done j) v x12 x16 x17 x5 W' := by
  have h12 := h.n12 (.inl hd)
  refine ⟨h.be.trans (hb.mono h.be.size), fun _ => owns_mono ho h.be.size, fun a b => owns_below (h.d5 (by simpa using a) (by simpa using b)) hb, fun a => owns_below (h.d9 (by simpa using a)) hb, fun a => ?_, fun a => ?_, fun a => ?_⟩
  · have := (h.d10 (by simpa using a)).2.1
    rw [hd] at this; cases this
  · obtain ⟨p, e1, e2, e3⟩ := h.d11 (by simpa using a)
    rw [h12] at e3
    refine ⟨p, e1, e2, ?_⟩
    rw [hb.block p (Array.getElem?_eq_some_iff.1 e3).1, e3]
    simp [h12]
  · simp [h12] at a
theorem WoS.s5 (h : WoS w0 k fs ms done x9 x12 x16 x17 x5 W) (ho : W'.ownsRow W.heap.size 3 1 v ms.length (ints ms)) (hb : Below W.heap.size W W') :
    WoS w0 k fs ms (fun j => if j = 5 then true else done j) x9 v x16 x17 x5 W' := by
  refine ⟨h.be.trans (hb.mono h.be.size), fun a => owns_below (h.d2 (by simpa using a)) hb, fun a b => owns_mono ho h.be.size, fun a => owns_below (h.d9 (by simpa using a)) hb, fun a => by simpa using h.d10 (by simpa using a), fun a => ?_, fun a => by simpa using h.w12 (by simpa using a)⟩
  obtain ⟨p, e1, e2, e3⟩ := h.d11 (by simpa using a)
  refine ⟨p, e1, e2, ?_⟩
  rw [hb.block p (Array.getElem?_eq_some_iff.1 e3).1, e3]
  simp
theorem ownsRow_cap {S e z n cap g : Nat} {xs : List Value} (h : W.ownsRow S e z (.slice (some ⟨g, 0, none⟩) n cap) n xs) : n ≤ cap := by
  rcases h.2 with ⟨e, -⟩ | ⟨g', cap', cur, e, -, -, h4, -⟩
  · cases e
  · cases e; exact h4
theorem owns_block_ne {S e z n p : Nat} {e' : TypeId} {x : Value} {xs : List Value} {cs : Array Value} {fz : Nat × Nat} (h : W.ownsRow S e z x n xs) (hp : W.heap[p]? = some (.cells cs e' fz)) (he : e ≠ e') : some p ≠ x.ownBlock := by
  rcases h.2 with ⟨rfl, -⟩ | ⟨g, cap, cur, rfl, -, hg, -⟩
  · intro e; cases e
  · intro e2
    have : p = g := by simpa [Value.ownBlock] using e2
    subst this
    rw [hp] at hg
    exact he (Obj.cells.inj (Option.some.inj hg)).2.1.symm
theorem WoS.s9 (h : WoS w0 k fs ms done x9 x12 x16 x17 x5 W) (hd : done 9 = false) (h5 : done 5 = true) (ho : W'.ownsRow w0.heap.size 3 1 v (ms.eraseIdx k).length (ints (ms.eraseIdx k))) (hg : W.grownBy W' x12.ownBlock) :
    WoS w0 k fs ms (fun j => if j = 9 then true else done j) x9 x12 v x17 x5 W' := by
  have h12 := h.n12 (.inr (.inl hd))
  have o12 := h.d5 h5 hd
  refine ⟨h.be.grown hg h.be.size (fun r e => (o12.lt r e).1), fun a => (h.d2 (by simpa using a)).kept hg (owns_apart (h.d2 (by simpa using a)) o12 (by decide)), fun a b => (by simp at b), fun _ => ho, fun a => ?_, fun a => ?_, fun a => ?_⟩
  · have := (h.d10 (by simpa using a)).2.2
    rw [hd] at this; cases this
  · obtain ⟨p, e1, e2, e3⟩ := h.d11 (by simpa using a)
    rw [h12] at e3
    refine ⟨p, e1, e2, ?_⟩
    rw [hg.block p (Array.getElem?_eq_some_iff.1 e3).1 (owns_block_ne o12 e3 (by decide)), e3]
    simp [h12]
  · simp [h12] at a
theorem WoS.s10 (h : WoS w0 k fs ms done x9 x12 x16 x17 x5 W) (h2 : done 2 = true) (h9 : done 9 = true) : WoS w0 k fs ms (fun j => if j = 10 then true else done j) x9 x12 x16 (.agg #[x9, x16]) x5 W :=
  ⟨h.be, fun a => h.d2 (by simpa using a), fun a b => h.d5 (by simpa using a) (by simpa using b), fun a => h.d9 (by simpa using a), fun _ => ⟨rfl, by simpa using h2, by simpa using h9⟩, fun a => by simpa using h.d11 (by simpa using a), fun a => by have := h.w12 (by simpa using a); simp [this]⟩
theorem WoS.s11 (h : WoS w0 k fs ms done x9 x12 x16 x17 x5 W) (hd : done 11 = false) : WoS w0 k fs ms (fun j => if j = 11 then true else done j) x9 x12 x16 x17 (.pointer (some ⟨W.heap.size, 0, none⟩)) (W.alloc (.cells #[.slice none 0 0, .slice none 0 0] 90)) := by
  have hb : Below W.heap.size W (W.alloc (.cells #[.slice none 0 0, .slice none 0 0] 90)) := (Below.refl _ W).alloc (Nat.le_refl _) _
  have h12 := h.n12 (.inr (.inr (.inr hd)))
  refine ⟨h.be.trans (hb.mono h.be.size), fun a => owns_below (h.d2 (by simpa using a)) hb, fun a b => owns_below (h.d5 (by simpa using a) (by simpa using b)) hb, fun a => owns_below (h.d9 (by simpa using a)) hb, fun a => by simpa using h.d10 (by simpa using a), fun _ => ⟨W.heap.size, rfl, h.be.size, ?_⟩, fun a => ?_⟩
  · rw [World.alloc_heap_new]; simp [h12]
  · simp [h12] at a
theorem WoS.box (h : WoS w0 k fs ms done x9 x12 x16 x17 x5 W) (hd : done 12 = false) (h11 : done 11 = true) : ∃ p, x5 = .pointer (some ⟨p, 0, none⟩) ∧ w0.heap.size ≤ p ∧ (∀ j, j < 2 → W.cell? ⟨p, j, none⟩ = some (.slice none 0 0)) ∧ (∀ j, W.frozen? ⟨p, j, none⟩ = false) ∧ W.heap[p]? = some (.cells #[.slice none 0 0, .slice none 0 0] 90 (0, 0)) := by
  obtain ⟨p, e1, e2, e3⟩ := h.d11 h11
  rw [hd] at e3
  have e3' : W.heap[p]? = some (.cells #[.slice none 0 0, .slice none 0 0] 90 (0, 0)) := by simpa using e3
  refine ⟨p, e1, e2, fun j hj => ?_, fun j => ?_, e3'⟩
  · rcases (by omega : j = 0 ∨ j = 1) with rfl | rfl <;> simp [World.cell?, e3']
  · simp [World.frozen?, e3']
theorem WoS.s12 {p : Nat} (h : WoS w0 k fs ms done x9 x12 x16 x17 (.pointer (some ⟨p, 0, none⟩)) W) (hd : done 12 = false) (h2 : done 2 = true) (h9 : done 9 = true) (h10 : done 10 = true) (h11 : done 11 = true) (hp : w0.heap.size ≤ p) (hc : W.heap[p]? = some (.cells #[.slice none 0 0, .slice none 0 0] 90 (0, 0))) :
    WoS w0 k fs ms (fun j => if j = 12 then true else done j) x9 x12 x16 x17 (.pointer (some ⟨p, 0, none⟩)) ((W.setCell ⟨p, 0, none⟩ x9).setCell ⟨p, 1, none⟩ x16) := by
  have off : ∀ r, r ≠ p → ((W.setCell ⟨p, 0, none⟩ x9).setCell ⟨p, 1, none⟩ x16).heap[r]? = W.heap[r]? := fun r hr => by
    rw [Below.heap_setCell _ _ _ r hr, Below.heap_setCell _ _ _ r hr]
  have kp : ∀ {e z n : Nat} {x : Value} {xs : List Value}, W.ownsRow w0.heap.size e z x n xs → e ≠ 90 → ((W.setCell ⟨p, 0, none⟩ x9).setCell ⟨p, 1, none⟩ x16).ownsRow w0.heap.size e z x n xs := fun ho he => by
    have hne := owns_block_ne ho hc he
    rcases ho.2 with h1 | ⟨g, cap, cur, rfl, h1, h2, h3⟩
    · exact ⟨ho.1, .inl h1⟩
    · exact ⟨ho.1, .inr ⟨g, cap, cur, rfl, h1, (off g (fun e' => hne (by rw [e']; rfl))).trans h2, h3⟩⟩
  refine ⟨(h.be.setCell (p := ⟨p, 0, none⟩) hp _).setCell (p := ⟨p, 1, none⟩) hp _, fun a => kp (h.d2 (by simpa using a)) (by decide), fun a b => kp (h.d5 (by simpa using a) (by simpa using b)) (by decide), fun a => kp (h.d9 (by simpa using a)) (by decide), fun a => by simpa using h.d10 (by simpa using a), fun _ => ⟨p, rfl, hp, ?_⟩, fun _ => by simp [h2, h9, h10, h11]⟩
  have hl := (Array.getElem?_eq_some_iff.1 hc).1
  simp [World.setCell, Array.getElem?_modify, hc]
theorem rs_set {B : Nat} {W : World} {g o n c p j : Nat} {u : Value} {xs : List Value} (h : RS B W (.slice (some ⟨g, o, none⟩) n c) n xs) (hne : g ≠ p) : RS B (W.setCell ⟨p, j, none⟩ u) (.slice (some ⟨g, o, none⟩) n c) n xs := by
  obtain ⟨a, c', e, h2⟩ := h
  cases e
  refine ⟨_, _, rfl, fun hx => ?_⟩
  obtain ⟨b, o', e, h3, h4⟩ := h2 hx
  cases e
  exact ⟨g, o, rfl, h3, fun i v hv => by rw [World.cell?_setCell_other _ _ _ _ (fun e => hne (congrArg Addr.block e).symm)]; exact h4 i v hv⟩
/-- a part of a list of spans -/
theorem rs_sub {S n cap g a m c : Nat} {L : List (Int × Int)} (h : W.ownsRow S 28 2 (.slice (some ⟨g, 0, none⟩) n cap) n (spans L)) (hm : a + m ≤ n) : RS W.heap.size W (.slice (some ⟨g, a * 2, none⟩) m c) m (spans ((L.drop a).take m)) := by
  have hl : L.length = n := by have := h.1; rw [spans_length] at this; omega
  refine ⟨_, _, rfl, fun _ => ⟨g, a * 2, rfl, (h.lt g rfl).2, fun j v hv => ?_⟩⟩
  have hj : j < m * 2 := by have := (List.getElem?_eq_some_iff.1 hv).1; rw [spans_length, List.length_take, List.length_drop] at this; omega
  rw [h.cellAt _ (by omega), ← hv]
  have e1 : L = L.take a ++ ((L.drop a).take m ++ (L.drop a).drop m) := by rw [List.take_append_drop, List.take_append_drop]
  have e2 : spans L = spans (L.take a) ++ (spans ((L.drop a).take m) ++ spans ((L.drop a).drop m)) := by rw [← spans_append', ← spans_append', ← e1]
  rw [e2, List.getElem?_append_right (by rw [spans_length, List.length_take]; omega), List.getElem?_append_left (by rw [spans_length, spans_length, List.length_take, List.length_take, List.length_drop]; omega)]
  congr 1
  rw [spans_length, List.length_take]
  omega
theorem wo_end {w W6 : World} {q p g9 a9 n9 c9 g16 n16 c16 : Nat} {fs' : List (Int × Int)} {ms' : List Int} (hb : Below w.heap.size w W6) (hq : w.heap.size ≤ q) (hp : w.heap.size ≤ p) (r9 : RS W6.heap.size W6 (.slice (some ⟨g9, a9, none⟩) n9 c9) n9 (spans fs')) (r16 : RS W6.heap.size W6 (.slice (some ⟨g16, 0, none⟩) n16 c16) n16 (ints ms'))
    (h1 : g9 ≠ p) (h2 : g9 ≠ q + 1) (h3 : g16 ≠ p) (h4 : g16 ≠ q + 1) (h5 : q + 1 ≠ p) (y0 : (W6.cell? ⟨q + 1, 0, none⟩).isSome = true) (y1 : (W6.cell? ⟨q + 1, 1, none⟩).isSome = true) {W : World}
    (hW : W = ((W6.setCell ⟨p, 0, none⟩ (.slice (some ⟨g9, a9, none⟩) n9 c9)).setCell ⟨q + 1, 0, none⟩ (.slice (some ⟨g9, a9, none⟩) n9 c9)).setCell ⟨q + 1, 1, none⟩ (.slice (some ⟨g16, 0, none⟩) n16 c16)) :
    Below w.heap.size w W ∧ RS W.heap.size W (.slice (some ⟨g9, a9, none⟩) n9 c9) n9 (spans fs') ∧ RS W.heap.size W (.slice (some ⟨g16, 0, none⟩) n16 c16) n16 (ints ms') ∧ W.cell? ⟨q + 1, 0, none⟩ = some (.slice (some ⟨g9, a9, none⟩) n9 c9) ∧ W.cell? ⟨q + 1, 1, none⟩ = some (.slice (some ⟨g16, 0, none⟩) n16 c16) := by
  have hs : W.heap.size = W6.heap.size := by rw [hW]; simp [World.setCell]
  rw [hs]
  subst hW
  refine ⟨((hb.setCell (p := ⟨p, 0, none⟩) hp _).setCell (p := ⟨q + 1, 0, none⟩) (by show w.heap.size ≤ q + 1; omega) _).setCell (p := ⟨q + 1, 1, none⟩) (by show w.heap.size ≤ q + 1; omega) _, rs_set (rs_set (rs_set r9 h1) h2) h2, rs_set (rs_set (rs_set r16 h3) h4) h4, ?_, ?_⟩
  · rw [World.cell?_setCell_other _ _ _ _ (fun e => by have := congrArg Addr.off e; simp at this)]
    exact World.cell?_setCell_same' _ _ _ (by rw [World.cell?_setCell_other _ _ _ _ (fun e => h5 (congrArg Addr.block e).symm)]; exact y0)
  · exact World.cell?_setCell_same' _ _ _ (by rw [World.cell?_setCell_other _ _ _ _ (fun e => by have := congrArg Addr.off e; simp at this), World.cell?_setCell_other _ _ _ _ (fun e => h5 (congrArg Addr.block e).symm)]; exact y1)
end
set_option maxRecDepth 20000 in
set_option maxHeartbeats 2000000 in
theorem without_any {B k : Nat} {fs : List (Int × Int)} {ms : List Int} {fv mv : Value} {w : World} (hk : k < ms.length) (h2 : 2 ≤ ms.length) (hfm : fs.length + 1 = ms.length) (h40 : ms.length ≤ 40) (fr : SpR fs) (hB : B ≤ w.heap.size) (hf : RS B w fv fs.length (spans fs)) (hm : RS B w mv ms.length (ints ms)) :
    Calls Try.prog 63 #[.agg #[fv, mv], .int .i64 k] w fun e w' => ∃ gv mv', e = .returned (.agg #[gv, mv']) ∧ Below w.heap.size w w' ∧ RS w'.heap.size w' gv (woF fs k).length (spans (woF fs k)) ∧ RS w'.heap.size w' mv' (ms.eraseIdx k).length (ints (ms.eraseIdx k)) := by
  have HD := Lib.hid fr
  have HR := Lib.hid (And.intro hB (And.intro hf hm))
  obtain ⟨fb, fo, fc, rfl⟩ : ∃ fb fo fc, fv = .slice (some ⟨fb, fo, none⟩) fs.length fc := by
    obtain ⟨a2, c2, rfl, h2⟩ := hf
    obtain ⟨fb, fo, rfl, -⟩ := h2 (spans_ne (by omega))
    exact ⟨fb, fo, c2, rfl⟩
  obtain ⟨mb, mo, mc, rfl⟩ : ∃ mb mo mc, mv = .slice (some ⟨mb, mo, none⟩) ms.length mc := by
    obtain ⟨a2, c2, rfl, h2⟩ := hm
    obtain ⟨mb, mo, rfl, -⟩ := h2 (ints_ne (by omega))
    exact ⟨mb, mo, c2, rfl⟩
  obtain ⟨fl, hfl⟩ : ∃ x, x = fs.length := ⟨_, rfl⟩
  obtain ⟨ml, hml⟩ : ∃ x, x = ms.length := ⟨_, rfl⟩
  have HL := Lib.hid (And.intro hfl hml)
  rw [← hfl, ← hml] at HR
  rw [← hml] at hk h2 h40
  rw [← hfl, ← hml] at hfm
  rw [← hfl, ← hml]
  have HM : Hid (Below w.heap.size w ((w.alloc (.cells #[.slice (some ⟨fb, fo, none⟩) fl fc, .slice (some ⟨mb, mo, none⟩) ml mc] 90)).alloc (.cells #[.slice none 0 0, .slice none 0 0] 90)) ∧ ((w.alloc (.cells #[.slice (some ⟨fb, fo, none⟩) fl fc, .slice (some ⟨mb, mo, none⟩) ml mc] 90)).alloc (.cells #[.slice none 0 0, .slice none 0 0] 90)).cell? ⟨w.heap.size, 0, none⟩ = some (.slice (some ⟨fb, fo, none⟩) fl fc) ∧ ((w.alloc (.cells #[.slice (some ⟨fb, fo, none⟩) fl fc, .slice (some ⟨mb, mo, none⟩) ml mc] 90)).alloc (.cells #[.slice none 0 0, .slice none 0 0] 90)).cell? ⟨w.heap.size, 1, none⟩ = some (.slice (some ⟨mb, mo, none⟩) ml mc) ∧ (∀ j, j < 2 → ((w.alloc (.cells #[.slice (some ⟨fb, fo, none⟩) fl fc, .slice (some ⟨mb, mo, none⟩) ml mc] 90)).alloc (.cells #[.slice none 0 0, .slice none 0 0] 90)).cell? ⟨w.heap.size + 1, j, none⟩ = some (.slice none 0 0) ∧ ((w.alloc (.cells #[.slice (some ⟨fb, fo, none⟩) fl fc, .slice (some ⟨mb, mo, none⟩) ml mc] 90)).alloc (.cells #[.slice none 0 0, .slice none 0 0] 90)).frozen? ⟨w.heap.size + 1, j, none⟩ = false)) := Lib.hid (by
    refine ⟨((Below.refl _ w).alloc (Nat.le_refl _) _).alloc (by simp) _, ?_, ?_, fun j hj => ?_⟩
    · simp [go_sem]
    · simp [go_sem]
    · rcases (by omega : j = 0 ∨ j = 1) with rfl | rfl <;> constructor <;> simp [go_sem])
  clear hB hfl hml fr hf hm
  have hwk : IntKind.i64.wrap ((k : Int) + 1) = (k : Int) + 1 := IntWalk.i64_in _ (by omega)
  go_enter Try.func63, Try.ntmps63
  go_upto_region 1 with (fail)
  obtain ⟨q, hq⟩ : ∃ q, q = w.heap.size := ⟨_, rfl⟩
  have HQ := Lib.hid hq.symm
  rw [← hq] at HM
  simp only [← hq]
  clear hq
  generalize ((w.alloc (.cells #[.slice (some ⟨fb, fo, none⟩) fl fc, .slice (some ⟨mb, mo, none⟩) ml mc] 90)).alloc (.cells #[.slice none 0 0, .slice none 0 0] 90)) = w1 at HM ⊢
  obtain ⟨-, k0, k1, k2⟩ := HM.out
  have HW1 : Hid (Below w.heap.size w w1) := Lib.hid (by rw [HQ.out]; exact HM.out.1)
  clear HM
  have HP4 := Lib.hid k2
  have HB4 : Hid (Below w.heap.size w w1.drew) := Lib.hid (HW1.out.trans ((Below.refl _ w1).drew.mono HW1.out.size))
  have hC : (fun W => W.cell? ⟨q, 0, none⟩ = some (.slice (some ⟨fb, fo, none⟩) fl fc) ∧ W.cell? ⟨q, 1, none⟩ = some (.slice (some ⟨mb, mo, none⟩) ml mc)) w1.drew := ⟨k0, k1⟩
  clear k0 k1 k2
  generalize hW0 : w1.drew = w4 at HB4 hC
  have HCS : Hid (∀ W, Below w.heap.size w W → Calls Try.prog 82 #[.slice (some ⟨fb, fo, none⟩) fl fc] W fun e w' => ∃ v', e = .returned v' ∧ w'.ownsRow W.heap.size 28 2 v' fs.length (spans fs) ∧ Below W.heap.size W w') := Lib.hid fun W hW => by
    rw [← HL.out.1]
    exact clone_any_span (Nat.le_trans HR.out.1 hW.size) (HR.out.2.1.below (hW.mono HR.out.1)) HL.out.1 (by omega) (by omega)
  have HCI : Hid (∀ W, Below w.heap.size w W → Calls Try.prog 58 #[.slice (some ⟨mb, mo, none⟩) ml mc] W fun e w' => ∃ v', e = .returned v' ∧ w'.ownsRow W.heap.size 3 1 v' ms.length (ints ms) ∧ Below W.heap.size W w') := Lib.hid fun W hW => by
    rw [← HL.out.2]
    exact clone_any_int (Nat.le_trans HR.out.1 hW.size) (HR.out.2.2.below (hW.mono HR.out.1)) HL.out.2 (by omega)
  have HDI : Hid (∀ {v : Value} {W : World} {S : Nat}, W.ownsRow S 3 1 v ms.length (ints ms) → Calls Try.prog 86 #[v, .int .i64 k, .int .i64 ((k : Int) + 1)] W fun e w' => ∃ v', e = .returned v' ∧ w'.ownsRow S 3 1 v' (ms.eraseIdx k).length (ints (ms.eraseIdx k)) ∧ W.grownBy w' v.ownBlock) := Lib.hid fun h => delete_any (by rw [← HL.out.2]; omega) (by rw [← HL.out.2]; omega) h
  have HP4d : Hid (∀ j, j < 2 → w4.cell? ⟨q + 1, j, none⟩ = some (.slice none 0 0) ∧ w4.frozen? ⟨q + 1, j, none⟩ = false) := Lib.hid (by rw [← hW0]; exact HP4.out)
  refine Lim.regC' (fun W => W.cell? ⟨q, 0, none⟩ = some (.slice (some ⟨fb, fo, none⟩) fl fc) ∧ W.cell? ⟨q, 1, none⟩ = some (.slice (some ⟨mb, mo, none⟩) ml mc)) [] #[false, false, false, false, false, false, false, false, false, false, false, false, false] (by kernel_rfl) rfl ?_
  rw [hW0]; clear hW0
  refine Lim.stepR 0 (fun _ => trivial) rfl (by kernel_rfl) (fun _ _ _ _ h => h) hC rfl ?_; apply Exists.intro; refine ⟨?_, ?_⟩
  · rintro w ⟨r0, r1⟩; go_simp; try with_reducible rfl
  simp only [Act.put, List.setIfInBounds_toArray, List.set_cons_succ, List.set_cons_zero]
  refine Lim.stepR 1 (fun _ => trivial) rfl (by kernel_rfl) (fun _ _ _ _ h => h) hC rfl ?_; apply Exists.intro; refine ⟨?_, ?_⟩
  · rintro w ⟨r0, r1⟩; go_simp; try with_reducible rfl
  simp only [Act.put, List.setIfInBounds_toArray, List.set_cons_succ, List.set_cons_zero]
  refine Lim.stepR 3 (fun _ => trivial) rfl (by kernel_rfl) (fun _ _ _ _ h => h) hC rfl ?_; apply Exists.intro; refine ⟨?_, ?_⟩
  · rintro w ⟨r0, r1⟩; go_simp; try with_reducible rfl
  simp only [Act.put, List.setIfInBounds_toArray, List.set_cons_succ, List.set_cons_zero]
  refine Lim.stepR 4 (fun _ => trivial) rfl (by kernel_rfl) (fun _ _ _ _ h => h) hC rfl ?_; apply Exists.intro; refine ⟨?_, ?_⟩
  · rintro w ⟨r0, r1⟩; go_simp; try with_reducible rfl
  simp only [Act.put, List.setIfInBounds_toArray, List.set_cons_succ, List.set_cons_zero]
  refine Lim.stepR 6 (fun _ => trivial) rfl (by kernel_rfl) (fun _ _ _ _ h => h) hC rfl ?_; apply Exists.intro; refine ⟨?_, ?_⟩
  · rintro w ⟨r0, r1⟩; go_simp; try with_reducible rfl
  simp only [Act.put, List.setIfInBounds_toArray, List.set_cons_succ, List.set_cons_zero]
  refine Lim.stepR 7 (fun _ => trivial) rfl (by kernel_rfl) (fun _ _ _ _ h => h) hC rfl ?_; apply Exists.intro; refine ⟨?_, ?_⟩
  · rintro w ⟨r0, r1⟩; go_simp; try with_reducible rfl
  simp only [Act.put, List.setIfInBounds_toArray, List.set_cons_succ, List.set_cons_zero]
  refine Lim.stepR 8 (fun _ => trivial) rfl (by kernel_rfl) (fun _ _ _ _ h => h) hC rfl ?_; apply Exists.intro; refine ⟨?_, ?_⟩
  · rintro w ⟨r0, r1⟩; go_simp; try with_reducible rfl
  simp only [Act.put, List.setIfInBounds_toArray, List.set_cons_succ, List.set_cons_zero]
  have HC4 := Lib.hid hC
  clear hC
  refine Lim.parC [2, 5, 9, 10, 11, 12] (fun done a W => ∃ x9 x12 x16 x17 x5, a = { tmps := #[Value.agg #[Value.slice (some ⟨fb, fo, none⟩) fl fc, Value.slice (some ⟨mb, mo, none⟩) ml mc], Value.int IntKind.i64 k, Value.pointer (some ⟨q, 0, none⟩), undef, Value.pointer (some ⟨q + 1, 0, none⟩), x5, undef, Value.pointer (some ⟨q, 0, none⟩), Value.slice (some ⟨fb, fo, none⟩) fl fc, x9, Value.pointer (some ⟨q, 1, none⟩), Value.slice (some ⟨mb, mo, none⟩) ml mc, x12, Value.int IntKind.i64 k, Value.int IntKind.i64 k, Value.int IntKind.i64 (k + 1), x16, x17, undef, undef, undef, undef, undef, undef, undef, undef, undef, undef, undef, undef, undef, undef, undef, undef, undef, undef, undef, undef, undef, undef, undef, undef, undef, undef, undef, undef, undef, undef, undef, undef, undef, undef, undef, undef, undef, undef, undef, undef, undef, undef, undef, undef, undef], defers := [] } ∧ WoS w4 k fs ms done x9 x12 x16 x17 x5 W) (fun _ => trivial) (by kernel_rfl) rfl rfl ?hC ?step ?fin
    ⟨_, _, _, _, _, rfl, ⟨Below.refl _ _, fun h => (by cases h), fun h => (by cases h), fun h => (by cases h), fun h => (by cases h), fun h => (by cases h), fun h => (by cases h)⟩⟩
  case hC =>
    rintro done a W ⟨x9, x12, x16, x17, x5, rfl, HS⟩
    exact ⟨HS.be.on HC4.out.1, HS.be.on HC4.out.2⟩
  case step =>
    intro i o hi ho done a W hd hdep hS K hK
    obtain ⟨x9, x12, x16, x17, x5, rfl, HS⟩ := hS
    have HS := Lib.hid HS
    have HW := Lib.hid (HB4.out.trans (HS.out.be.mono HB4.out.size))
    simp only [List.mem_cons, List.not_mem_nil, or_false] at hi
    rcases hi with rfl | rfl | rfl | rfl | rfl | rfl
    · cases ho
      clear hdep
      go_simp
      refine ⟨rfl, (callsIn_wide.2 (HCS.out _ HW.out)).mono ?_⟩
      rintro e w5 ⟨v, rfl, h1, h2⟩
      exact hK _ _ ⟨_, _, _, _, _, rfl, HS.out.s2 hd h1 h2⟩
    · cases ho
      clear hdep
      go_simp
      refine ⟨rfl, (callsIn_wide.2 (HCI.out _ HW.out)).mono ?_⟩
      rintro e w5 ⟨v, rfl, h1, h2⟩
      exact hK _ _ ⟨_, _, _, _, _, rfl, HS.out.s5 h1 h2⟩
    · cases ho
      have h5 := hdep 5 (by kernel_rfl) (by simp)
      clear hdep
      go_simp
      refine ⟨rfl, (callsIn_wide.2 (HDI.out (HS.out.d5 h5 hd))).mono ?_⟩
      rintro e w5 ⟨v, rfl, h1, h2⟩
      exact hK _ _ ⟨_, _, _, _, _, rfl, HS.out.s9 hd h5 h1 h2⟩
    · cases ho
      have h2 := hdep 2 (by kernel_rfl) (by simp)
      have h9 := hdep 9 (by kernel_rfl) (by simp)
      clear hdep
      obtain ⟨a9, n9, c9, rfl⟩ : ∃ a n c, x9 = .slice a n c := by
        rcases (HS.out.d2 h2).2 with ⟨e1, -⟩ | ⟨g, cap, cur, e1, -⟩
        · exact ⟨none, 0, 0, e1⟩
        · exact ⟨_, _, _, e1⟩
      obtain ⟨a16, n16, c16, rfl⟩ : ∃ a n c, x16 = .slice a n c := by
        rcases (HS.out.d9 h9).2 with ⟨e1, -⟩ | ⟨g, cap, cur, e1, -⟩
        · exact ⟨none, 0, 0, e1⟩
        · exact ⟨_, _, _, e1⟩
      go_simp
      exact hK _ _ ⟨_, _, _, _, _, rfl, HS.out.s10 h2 h9⟩
    · cases ho
      clear hdep
      go_simp
      exact hK _ _ ⟨_, _, _, _, _, rfl, HS.out.s11 hd⟩
    · cases ho
      have h2 := hdep 2 (by kernel_rfl) (by simp)
      have h9 := hdep 9 (by kernel_rfl) (by simp)
      have h10 := hdep 10 (by kernel_rfl) (by simp)
      have h11 := hdep 11 (by kernel_rfl) (by simp)
      clear hdep
      obtain ⟨p, rfl, hp, hc, hfz, hblk⟩ := HS.out.box hd h11
      obtain rfl := (HS.out.d10 h10).1
      obtain ⟨a9, n9, c9, rfl⟩ : ∃ a n c, x9 = .slice a n c := by
        rcases (HS.out.d2 h2).2 with ⟨e1, -⟩ | ⟨g, cap, cur, e1, -⟩
        · exact ⟨none, 0, 0, e1⟩
        · exact ⟨_, _, _, e1⟩
      obtain ⟨a16, n16, c16, rfl⟩ : ∃ a n c, x16 = .slice a n c := by
        rcases (HS.out.d9 h9).2 with ⟨e1, -⟩ | ⟨g, cap, cur, e1, -⟩
        · exact ⟨none, 0, 0, e1⟩
        · exact ⟨_, _, _, e1⟩
      have c0 := hc 0 (by omega)
      have c1 := hc 1 (by omega)
      have f0 := hfz 0
      have f1 := hfz 1
      have HX := Lib.hid (HS.out.s12 hd h2 h9 h10 h11 hp hblk)
      clear hc hfz hblk
      go_simp
      exact hK _ _ ⟨_, _, _, _, _, rfl, HX.out⟩
  case fin =>
  rintro done a w6 hall ⟨x9, x12, x16, x17, x5, rfl, HS⟩
  dsimp only
  have o9 := HS.d2 (hall 2 (by simp))
  have o16 := HS.d9 (hall 9 (by simp))
  obtain ⟨p, rfl, hp4, hblk⟩ := HS.d11 (hall 11 (by simp))
  rw [if_pos (hall 12 (by simp)), ] at hblk
  obtain ⟨g9, c9, rfl⟩ : ∃ g c, x9 = .slice (some ⟨g, 0, none⟩) fl c := by
    rcases o9.2 with ⟨e1, e2⟩ | ⟨g, cap, cur, e1, -⟩
    · have := HL.out; omega
    · exact ⟨g, cap, by rw [e1, HL.out.1]⟩
  have hel : (ms.eraseIdx k).length = ml - 1 := by rw [List.length_eraseIdx_of_lt (by rw [← HL.out.2]; exact hk), HL.out.2]
  rw [hel] at o16
  obtain ⟨g16, c16, rfl⟩ : ∃ g c, x16 = .slice (some ⟨g, 0, none⟩) (ml - 1) c := by
    rcases o16.2 with ⟨e1, e2⟩ | ⟨g, cap, cur, e1, -⟩
    · omega
    · exact ⟨g, cap, e1⟩
  have z0 := HS.be.on HC4.out.1
  have z1 := HS.be.on HC4.out.2
  have y0 : w6.cell? ⟨q + 1, 0, none⟩ = some (.slice none 0 0) := HS.be.on (HP4d.out 0 (by omega)).1
  have y1 : w6.cell? ⟨q + 1, 1, none⟩ = some (.slice none 0 0) := HS.be.on (HP4d.out 1 (by omega)).1
  have y2 : w6.frozen? ⟨q + 1, 0, none⟩ = false := (HS.be.frozen (p := ⟨q + 1, 0, none⟩) (World.block_lt_of_cell? _ _ (HP4d.out 0 (by omega)).1)).trans (HP4d.out 0 (by omega)).2
  have y3 : w6.frozen? ⟨q + 1, 1, none⟩ = false := (HS.be.frozen (p := ⟨q + 1, 1, none⟩) (World.block_lt_of_cell? _ _ (HP4d.out 1 (by omega)).1)).trans (HP4d.out 1 (by omega)).2
  have x0 : w6.cell? ⟨p, 0, none⟩ = some (.slice (some ⟨g9, 0, none⟩) fl c9) := by simp [World.cell?, hblk]
  have x1 : w6.cell? ⟨p, 1, none⟩ = some (.slice (some ⟨g16, 0, none⟩) (ml - 1) c16) := by simp [World.cell?, hblk]
  have x2 : w6.frozen? ⟨p, 0, none⟩ = false := by simp [World.frozen?, hblk]
  have HN : Hid (w.heap.size ≤ q ∧ q + 1 < w4.heap.size ∧ w4.heap.size ≤ p ∧ w4.heap.size ≤ g9 ∧ w4.heap.size ≤ g16 ∧ g9 ≠ p ∧ g16 ≠ p ∧ g9 ≠ g16 ∧ g9 < w6.heap.size ∧ g16 < w6.heap.size ∧ q + 1 ≠ p) := Lib.hid (by
    have h1 := o9.lt g9 rfl
    have h2 := o16.lt g16 rfl
    have h3 := owns_block_ne o9 hblk (by decide)
    have h4 := owns_block_ne o16 hblk (by decide)
    have h5 := owns_apart o9 o16 (by decide)
    have h6 := World.block_lt_of_cell? _ _ (HP4d.out 0 (by omega)).1
    have h7 : q + 1 < w4.heap.size := h6
    refine ⟨by rw [HQ.out]; exact Nat.le_refl _, h7, hp4, h1.1, h2.1, fun e => h3 (by rw [e]; rfl), fun e => h4 (by rw [e]; rfl), fun e => ?_, h1.2, h2.2, by omega⟩
    rcases h5 with h5 | h5
    · cases h5
    · exact h5 (by rw [e]; rfl))
  have HO := Lib.hid (And.intro o9 (And.intro o16 hel))
  have HB6 : Hid (Below w.heap.size w w6) := Lib.hid (HB4.out.trans (HS.be.mono HB4.out.size))
  clear hall HS hblk hp4 o9 o16 hel HC4 HP4 HCS HCI HDI
  have n1 : ¬ p = q + 1 := fun e => HN.out.2.2.2.2.2.2.2.2.2.2 e.symm
  have n2 : ¬ q + 1 = p := HN.out.2.2.2.2.2.2.2.2.2.2
  have HEND : Hid (∀ {a9 n9 c : Nat} {fs' : List (Int × Int)}, RS w6.heap.size w6 (.slice (some ⟨g9, a9, none⟩) n9 c) n9 (spans fs') → ∀ W, W = ((w6.setCell ⟨p, 0, none⟩ (.slice (some ⟨g9, a9, none⟩) n9 c)).setCell ⟨q + 1, 0, none⟩ (.slice (some ⟨g9, a9, none⟩) n9 c)).setCell ⟨q + 1, 1, none⟩ (.slice (some ⟨g16, 0, none⟩) (ml - 1) c16) → _) := Lib.hid (fun r9 W hW =>
    wo_end (fs' := _) (ms' := ms.eraseIdx k) HB6.out HN.out.1 (by have := HN.out; have := HB4.out.size; omega) r9 (RS.of_owns HO.out.2.1) HN.out.2.2.2.2.2.1 (by have := HN.out; omega) HN.out.2.2.2.2.2.2.1 (by have := HN.out; omega) HN.out.2.2.2.2.2.2.2.2.2.2 (by rw [y0]; rfl) (by rw [y1]; rfl) hW)
  by_cases h0 : k = 0
  · have HK := Lib.hid h0
    have g1 : ((k : Int) == 0) = true := by rw [h0]; rfl
    clear h0
    have hc1 : 1 ≤ c9 := by have h := HO.out.1; rw [← HL.out.1] at h; have := ownsRow_cap h; omega
    have hcf : fl ≤ c9 := by have h := HO.out.1; rw [← HL.out.1] at h; have := ownsRow_cap h; omega
    have HWF : Hid (woF fs k = fs.drop 1 ∧ (woF fs k).length = fl - 1 ∧ (fs.drop 1).take (fl - 1) = fs.drop 1) := Lib.hid ⟨by rw [HK.out]; rfl, by rw [HK.out, HL.out.1]; exact List.length_drop, List.take_of_length_le (by rw [List.length_drop, HL.out.1]; exact Nat.le_refl _)⟩
    by_cases hc2 : c9 = 1
    · subst hc2
      have hf1 : fl = 1 := by omega
      have HF1 := Lib.hid hf1
      clear hf1
      go_wp2
      obtain ⟨e1, e2, e3, e4, e5⟩ := HEND.out (a9 := 0) (n9 := 0) (c := 0) (fs' := []) ⟨_, _, rfl, fun h => absurd rfl h⟩ _ rfl
      refine bodyPost_ret (v := .agg #[.slice (some ⟨g9, 0, none⟩) 0 0, .slice (some ⟨g16, 0, none⟩) (ml - 1) c16]) (by simp [results, Try.f63, go_sem, e4, e5]) rfl ⟨_, _, rfl, e1, ?_, by rw [HO.out.2.2]; exact e3⟩
      have e : woF fs k = [] := List.eq_nil_of_length_eq_zero (by rw [HWF.out.2.1, HF1.out])
      rw [e]
      exact e2
    · go_wp2
      obtain ⟨e1, e2, e3, e4, e5⟩ := HEND.out (a9 := 2) (n9 := fl - 1) (c := c9 - 1) (fs' := fs.drop 1) (by
        have h := HO.out.1
        rw [← HL.out.1] at h
        have h2 := rs_sub (a := 1) (m := fl - 1) (c := c9 - 1) h (by omega)
        rw [HWF.out.2.2] at h2
        exact h2) _ rfl
      refine bodyPost_ret (v := .agg #[.slice (some ⟨g9, 2, none⟩) (fl - 1) (c9 - 1), .slice (some ⟨g16, 0, none⟩) (ml - 1) c16]) (by simp [results, Try.f63, go_sem, e4, e5]) rfl ⟨_, _, rfl, e1, ?_, by rw [HO.out.2.2]; exact e3⟩
      rw [HWF.out.2.1, HWF.out.1]
      exact e2
  · have g1 : ((k : Int) == 0) = false := by rw [beq_eq_false_iff_ne]; omega
    obtain ⟨f1, hf1⟩ : ∃ x, x = fl - 1 := ⟨_, rfl⟩
    have hwf : IntKind.i64.wrap ((fl : Int) - 1) = (f1 : Int) := by rw [IntWalk.i64_in _ (by omega)]; omega
    have hfc : f1 ≤ c9 := by have h := HO.out.1; rw [← HL.out.1] at h; have := ownsRow_cap h; omega
    by_cases h1 : k = fl
    · subst h1
      clear g1
      have HWF : Hid (woF fs k = fs.take (k - 1) ∧ (woF fs k).length = k - 1) := Lib.hid (by
        have e : woF fs k = fs.take (k - 1) := by rw [woF, if_neg h0, if_pos HL.out.1, HL.out.1]
        exact ⟨e, by rw [e, List.length_take, ← HL.out.1]; omega⟩)
      go_wp2
      obtain ⟨e1, e2, e3, e4, e5⟩ := HEND.out (a9 := 0) (n9 := k - 1) (c := c9) (fs' := fs.take (k - 1)) (by
        have h := HO.out.1
        rw [← HL.out.1] at h
        have h2 := rs_sub (a := 0) (m := k - 1) (c := c9) h (by omega)
        rw [List.drop_zero] at h2
        exact h2) _ rfl
      refine bodyPost_ret (v := .agg #[.slice (some ⟨g9, 0, none⟩) (k - 1) c9, .slice (some ⟨g16, 0, none⟩) (ml - 1) c16]) (by simp [results, Try.f63, go_sem, e4, e5]) rfl ⟨_, _, rfl, e1, ?_, by rw [HO.out.2.2]; exact e3⟩
      rw [HWF.out.2, HWF.out.1]
      exact e2
    · have g2 : ((k : Int) == (fl : Int)) = false := by rw [beq_eq_false_iff_ne]; omega
      clear hwf hfc hf1
      obtain ⟨k1, hk1⟩ : ∃ x, x = k - 1 := ⟨_, rfl⟩
      have hwk1 : IntKind.i64.wrap ((k : Int) - 1) = (k1 : Int) := by rw [IntWalk.i64_in _ (by omega)]; omega
      have hk1l : (k1 : Int) < (fl : Int) := by omega
      have hkl : (k : Int) < (fl : Int) := by omega
      obtain ⟨a1, ha1⟩ : ∃ x, x = (fs.getD k1 (0, 0)).1 := ⟨_, rfl⟩
      obtain ⟨a2, ha2⟩ : ∃ x, x = (fs.getD k1 (0, 0)).2 := ⟨_, rfl⟩
      obtain ⟨d1, hd1⟩ : ∃ x, x = (fs.getD k (0, 0)).1 := ⟨_, rfl⟩
      obtain ⟨d2, hd2⟩ : ∃ x, x = (fs.getD k (0, 0)).2 := ⟨_, rfl⟩
      have HV : Hid (woF fs k = (fs.set k1 (a1 + d1, a2 + d2)).eraseIdx k ∧ k1 < fl ∧ k < fl ∧ k1 ≠ k ∧ SpOk [(a1, a2), (d1, d2)]) := Lib.hid (by
        refine ⟨by rw [woF, if_neg h0, if_neg (by rw [← HL.out.1]; exact h1), ha1, ha2, hd1, hd2, hk1], by omega, by omega, by omega, fun s hs => ?_⟩
        have mem : ∀ j, j < fs.length → fs.getD j (0, 0) ∈ fs := fun j hj => by rw [List.getD_eq_getElem?_getD, List.getElem?_eq_getElem hj]; exact List.getElem_mem hj
        have q1 := HD.out _ (mem k1 (by rw [← HL.out.1]; omega))
        have q2 := HD.out _ (mem k (by rw [← HL.out.1]; omega))
        rw [← ha1, ← ha2] at q1
        rw [← hd1, ← hd2] at q2
        rcases List.mem_cons.1 hs with rfl | hs
        · show 0 ≤ a1 ∧ a1 ≤ 1000000 ∧ 0 ≤ a2 ∧ a2 ≤ 1000000
          omega
        · obtain rfl : s = (d1, d2) := by simpa using hs
          show 0 ≤ d1 ∧ d1 ≤ 1000000 ∧ 0 ≤ d2 ∧ d2 ≤ 1000000
          omega)
      have HFV : Hid (fb < B ∧ (∀ W, Below w.heap.size w W → (W.cell? ⟨fb, fo + k1 * 2, none⟩ = some (.int .i64 a1) ∧ W.cell? ⟨fb, fo + k1 * 2 + 1, none⟩ = some (.int .i64 a2)) ∧ W.cell? ⟨fb, fo + k * 2, none⟩ = some (.int .i64 d1) ∧ W.cell? ⟨fb, fo + k * 2 + 1, none⟩ = some (.int .i64 d2))) := Lib.hid (by
        obtain ⟨a', c', e, h2⟩ := HR.out.2.1
        cases e
        obtain ⟨b', o', e, h3, h4⟩ := h2 (spans_ne (by rw [← HL.out.1]; omega))
        cases e
        refine ⟨h3, fun W hW => ?_⟩
        have rd : ∀ j u, (spans fs)[j]? = some u → W.cell? ⟨fb, fo + j, none⟩ = some u := fun j u hj => ((hW.mono HR.out.1).cell (p := ⟨fb, fo + j, none⟩) h3).trans (h4 j u hj)
        have lo : ∀ j, j < fs.length → W.cell? ⟨fb, fo + j * 2, none⟩ = some (.int .i64 (fs.getD j (0, 0)).1) := fun j hj => by
          rw [List.getD_eq_getElem?_getD, List.getElem?_eq_getElem hj]; exact rd _ _ (spans_lo fs j hj)
        have hi : ∀ j, j < fs.length → W.cell? ⟨fb, fo + j * 2 + 1, none⟩ = some (.int .i64 (fs.getD j (0, 0)).2) := fun j hj => by
          rw [List.getD_eq_getElem?_getD, List.getElem?_eq_getElem hj]; exact rd _ _ (spans_hi fs j hj)
        rw [ha1, ha2, hd1, hd2]
        have l1 : k1 < fs.length := by rw [← HL.out.1]; omega
        have l2 : k < fs.length := by rw [← HL.out.1]; omega
        exact ⟨⟨lo k1 l1, hi k1 l1⟩, lo k l2, hi k l2⟩)
      clear ha1 ha2 hd1 hd2
      go_wp2_with fail
      obtain ⟨⟨q1, q2⟩, q3, q4⟩ := HFV.out.2 _ HB6.out
      have HB7 : Hid (Below w6.heap.size w6 w6.drew) := Lib.hid (Below.refl _ w6).drew
      have hC : (fun W => W.cell? ⟨p, 0, none⟩ = some (.slice (some ⟨g9, 0, none⟩) fl c9) ∧ W.cell? ⟨q, 0, none⟩ = some (.slice (some ⟨fb, fo, none⟩) fl fc) ∧ W.cell? ⟨fb, fo + k1 * 2, none⟩ = some (.int .i64 a1) ∧ W.cell? ⟨fb, fo + k1 * 2 + 1, none⟩ = some (.int .i64 a2) ∧ W.cell? ⟨fb, fo + k * 2, none⟩ = some (.int .i64 d1) ∧ W.cell? ⟨fb, fo + k * 2 + 1, none⟩ = some (.int .i64 d2)) w6.drew := ⟨x0, z0, q1, q2, q3, q4⟩
      have HY := Lib.hid (And.intro x1 (And.intro x2 (And.intro y0 (And.intro y1 (And.intro y2 y3)))))
      clear q1 q2 q3 q4 x0 x1 x2 y0 y1 y2 y3 z0 z1 hk1 g1 g2 HEND
      generalize hW0 : w6.drew = w7 at HB7 hC
      refine Lim.regC' (fun W => W.cell? ⟨p, 0, none⟩ = some (.slice (some ⟨g9, 0, none⟩) fl c9) ∧ W.cell? ⟨q, 0, none⟩ = some (.slice (some ⟨fb, fo, none⟩) fl fc) ∧ W.cell? ⟨fb, fo + k1 * 2, none⟩ = some (.int .i64 a1) ∧ W.cell? ⟨fb, fo + k1 * 2 + 1, none⟩ = some (.int .i64 a2) ∧ W.cell? ⟨fb, fo + k * 2, none⟩ = some (.int .i64 d1) ∧ W.cell? ⟨fb, fo + k * 2 + 1, none⟩ = some (.int .i64 d2)) [] #[false, false, false, false, false, false, false, false, false, false, false, false, false, false, false, false, false, false, false] (by kernel_rfl) rfl ?_
      rw [hW0]; clear hW0
      refine Lim.stepR 0 (fun _ => trivial) rfl (by kernel_rfl) (fun _ _ _ _ h => h) hC rfl ?_; apply Exists.intro; refine ⟨?_, ?_⟩
      · rintro w ⟨r0, r1, r2, r3, r4, r5⟩; go_simp; try with_reducible rfl
      simp only [Act.put, List.setIfInBounds_toArray, List.set_cons_succ, List.set_cons_zero]
      refine Lim.stepR 1 (fun _ => trivial) rfl (by kernel_rfl) (fun _ _ _ _ h => h) hC rfl ?_; apply Exists.intro; refine ⟨?_, ?_⟩
      · rintro w ⟨r0, r1, r2, r3, r4, r5⟩; go_simp; try with_reducible rfl
      simp only [Act.put, List.setIfInBounds_toArray, List.set_cons_succ, List.set_cons_zero]
      refine Lim.stepR 2 (fun _ => trivial) rfl (by kernel_rfl) (fun _ _ _ _ h => h) hC rfl ?_; apply Exists.intro; refine ⟨?_, ?_⟩
      · rintro w ⟨r0, r1, r2, r3, r4, r5⟩; go_simp; try with_reducible rfl
      simp only [Act.put, List.setIfInBounds_toArray, List.set_cons_succ, List.set_cons_zero]
      refine Lim.stepR 3 (fun _ => trivial) rfl (by kernel_rfl) (fun _ _ _ _ h => h) hC rfl ?_; apply Exists.intro; refine ⟨?_, ?_⟩
      · rintro w ⟨r0, r1, r2, r3, r4, r5⟩; go_simp; try with_reducible rfl
      simp only [Act.put, List.setIfInBounds_toArray, List.set_cons_succ, List.set_cons_zero]
      refine Lim.stepR 4 (fun _ => trivial) rfl (by kernel_rfl) (fun _ _ _ _ h => h) hC rfl ?_; apply Exists.intro; refine ⟨?_, ?_⟩
      · rintro w ⟨r0, r1, r2, r3, r4, r5⟩; go_simp; try with_reducible rfl
      simp only [Act.put, List.setIfInBounds_toArray, List.set_cons_succ, List.set_cons_zero]
      refine Lim.stepR 5 (fun _ => trivial) rfl (by kernel_rfl) (fun _ _ _ _ h => h) hC rfl ?_; apply Exists.intro; refine ⟨?_, ?_⟩
      · rintro w ⟨r0, r1, r2, r3, r4, r5⟩; go_simp; try with_reducible rfl
      simp only [Act.put, List.setIfInBounds_toArray, List.set_cons_succ, List.set_cons_zero]
      refine Lim.stepR 6 (fun _ => trivial) rfl (by kernel_rfl) (fun _ _ _ _ h => h) hC rfl ?_; apply Exists.intro; refine ⟨?_, ?_⟩
      · rintro w ⟨r0, r1, r2, r3, r4, r5⟩; go_simp; try with_reducible rfl
      simp only [Act.put, List.setIfInBounds_toArray, List.set_cons_succ, List.set_cons_zero]
      refine Lim.stepR 7 (fun _ => trivial) rfl (by kernel_rfl) (fun _ _ _ _ h => h) hC rfl ?_; apply Exists.intro; refine ⟨?_, ?_⟩
      · rintro w ⟨r0, r1, r2, r3, r4, r5⟩; go_simp; try with_reducible rfl
      simp only [Act.put, List.setIfInBounds_toArray, List.set_cons_succ, List.set_cons_zero]
      refine Lim.stepR 8 (fun _ => trivial) rfl (by kernel_rfl) (fun _ _ _ _ h => h) hC rfl ?_; apply Exists.intro; refine ⟨?_, ?_⟩
      · rintro w ⟨r0, r1, r2, r3, r4, r5⟩; go_simp; try with_reducible rfl
      simp only [Act.put, List.setIfInBounds_toArray, List.set_cons_succ, List.set_cons_zero]
      refine Lim.stepR 9 (fun _ => trivial) rfl (by kernel_rfl) (fun _ _ _ _ h => h) hC rfl ?_; apply Exists.intro; refine ⟨?_, ?_⟩
      · rintro w ⟨r0, r1, r2, r3, r4, r5⟩; go_simp; try with_reducible rfl
      simp only [Act.put, List.setIfInBounds_toArray, List.set_cons_succ, List.set_cons_zero]
      refine Lim.stepR 10 (fun _ => trivial) rfl (by kernel_rfl) (fun _ _ _ _ h => h) hC rfl ?_; apply Exists.intro; refine ⟨?_, ?_⟩
      · rintro w ⟨r0, r1, r2, r3, r4, r5⟩; go_simp; try with_reducible rfl
      simp only [Act.put, List.setIfInBounds_toArray, List.set_cons_succ, List.set_cons_zero]
      refine Lim.stepR 11 (fun _ => trivial) rfl (by kernel_rfl) (fun _ _ _ _ h => h) hC rfl ?_; apply Exists.intro; refine ⟨?_, ?_⟩
      · rintro w ⟨r0, r1, r2, r3, r4, r5⟩; go_simp; try with_reducible rfl
      simp only [Act.put, List.setIfInBounds_toArray, List.set_cons_succ, List.set_cons_zero]
      refine Lim.stepR 12 (fun _ => trivial) rfl (by kernel_rfl) (fun _ _ _ _ h => h) hC rfl ?_; apply Exists.intro; refine ⟨?_, ?_⟩
      · rintro w ⟨r0, r1, r2, r3, r4, r5⟩; go_simp; try with_reducible rfl
      simp only [Act.put, List.setIfInBounds_toArray, List.set_cons_succ, List.set_cons_zero]
      refine Lim.stepR 13 (fun _ => trivial) rfl (by kernel_rfl) (fun _ _ _ _ h => h) hC rfl ?_; apply Exists.intro; refine ⟨?_, ?_⟩
      · rintro w ⟨r0, r1, r2, r3, r4, r5⟩; go_simp; try with_reducible rfl
      simp only [Act.put, List.setIfInBounds_toArray, List.set_cons_succ, List.set_cons_zero]
      refine Lim.stepR 14 (fun _ => trivial) rfl (by kernel_rfl) (fun _ _ _ _ h => h) hC rfl ?_; apply Exists.intro; refine ⟨?_, ?_⟩
      · rintro w ⟨r0, r1, r2, r3, r4, r5⟩; go_simp; try with_reducible rfl
      simp only [Act.put, List.setIfInBounds_toArray, List.set_cons_succ, List.set_cons_zero]
      refine Lim.stepE 15 (fun _ => trivial) rfl (by kernel_rfl) rfl (fun K hK => ?_)   -- E buildSlice
      go_simp
      have hb8 : Below w7.heap.size w7 (w7.alloc (.cells #[.int .i64 a1, .int .i64 a2, .int .i64 d1, .int .i64 d2] 28)) := (Below.refl _ w7).alloc (Nat.le_refl _) _
      have hC2 : (fun W => W.cell? ⟨p, 0, none⟩ = some (.slice (some ⟨g9, 0, none⟩) fl c9) ∧ W.cell? ⟨q, 0, none⟩ = some (.slice (some ⟨fb, fo, none⟩) fl fc) ∧ W.cell? ⟨fb, fo + k1 * 2, none⟩ = some (.int .i64 a1) ∧ W.cell? ⟨fb, fo + k1 * 2 + 1, none⟩ = some (.int .i64 a2) ∧ W.cell? ⟨fb, fo + k * 2, none⟩ = some (.int .i64 d1) ∧ W.cell? ⟨fb, fo + k * 2 + 1, none⟩ = some (.int .i64 d2)) (w7.alloc (.cells #[.int .i64 a1, .int .i64 a2, .int .i64 d1, .int .i64 d2] 28)) := ⟨hb8.on hC.1, hb8.on hC.2.1, hb8.on hC.2.2.1, hb8.on hC.2.2.2.1, hb8.on hC.2.2.2.2.1, hb8.on hC.2.2.2.2.2⟩
      have HB8 : Hid (Below w6.heap.size w6 (w7.alloc (.cells #[.int .i64 a1, .int .i64 a2, .int .i64 d1, .int .i64 d2] 28))) := Lib.hid (HB7.out.trans (hb8.mono HB7.out.size))
      have HS8 : Hid (RS (w7.heap.size + 1) (w7.alloc (.cells #[.int .i64 a1, .int .i64 a2, .int .i64 d1, .int .i64 d2] 28)) (.slice (some ⟨w7.heap.size, 0, none⟩) 2 2) 2 (spans [(a1, a2), (d1, d2)])) := Lib.hid (by
        refine ⟨_, _, rfl, fun _ => ⟨w7.heap.size, 0, rfl, by omega, fun j u hj => ?_⟩⟩
        rw [Nat.zero_add, World.cell?_alloc_new]
        simpa [spans] using hj)
      have hs8 : (w7.alloc (.cells #[.int .i64 a1, .int .i64 a2, .int .i64 d1, .int .i64 d2] 28)).heap.size = w7.heap.size + 1 := by simp
      have HZ8 := Lib.hid hs8
      refine hK _ _ hC2 ?_
      clear hb8 hC hs8
      generalize w7.alloc (.cells #[.int .i64 a1, .int .i64 a2, .int .i64 d1, .int .i64 d2] 28) = w8 at hC2 HB8 HS8 HZ8 ⊢
      simp only [Act.put, List.setIfInBounds_toArray, List.set_cons_succ, List.set_cons_zero]
      refine Lim.stepE 16 (fun _ => trivial) rfl (by kernel_rfl) rfl (fun K hK => ?_)   -- E call
      go_simp
      refine ⟨rfl, (callsIn_wide.2 (sum_any (l := [(a1, a2), (d1, d2)]) HS8.out (Nat.le_of_eq HZ8.out.symm) (by simp) HV.out.2.2.2.2)).mono ?_⟩
      rintro e w9 ⟨rfl, hb9⟩
      have hs1 : sumLo [(a1, a2), (d1, d2)] = a1 + d1 := by simp [sumLo]
      have hs2 : sumHi [(a1, a2), (d1, d2)] = a2 + d2 := by simp [sumHi]
      rw [hs1, hs2]
      obtain ⟨s1, hs1⟩ : ∃ x, x = a1 + d1 := ⟨_, rfl⟩
      obtain ⟨s2, hs2⟩ : ∃ x, x = a2 + d2 := ⟨_, rfl⟩
      rw [← hs1, ← hs2]
      have HSS : Hid (woF fs k = (fs.set k1 (s1, s2)).eraseIdx k) := Lib.hid (by rw [hs1, hs2]; exact HV.out.1)
      have HB9 : Hid (Below w6.heap.size w6 w9) := Lib.hid (HB8.out.trans (hb9.mono HB8.out.size))
      have hC3 : (fun W => W.cell? ⟨p, 0, none⟩ = some (.slice (some ⟨g9, 0, none⟩) fl c9) ∧ W.cell? ⟨q, 0, none⟩ = some (.slice (some ⟨fb, fo, none⟩) fl fc) ∧ W.cell? ⟨fb, fo + k1 * 2, none⟩ = some (.int .i64 a1) ∧ W.cell? ⟨fb, fo + k1 * 2 + 1, none⟩ = some (.int .i64 a2) ∧ W.cell? ⟨fb, fo + k * 2, none⟩ = some (.int .i64 d1) ∧ W.cell? ⟨fb, fo + k * 2 + 1, none⟩ = some (.int .i64 d2)) w9 := ⟨hb9.on hC2.1, hb9.on hC2.2.1, hb9.on hC2.2.2.1, hb9.on hC2.2.2.2.1, hb9.on hC2.2.2.2.2.1, hb9.on hC2.2.2.2.2.2⟩
      refine hK _ _ hC3 ?_
      clear hb9 hC2 hs1 hs2
      simp only [Act.put, List.setIfInBounds_toArray, List.set_cons_succ, List.set_cons_zero]
      refine Lim.stepR 17 (fun _ => trivial) rfl (by kernel_rfl) (fun _ _ _ _ h => h) hC3 rfl ?_; apply Exists.intro; refine ⟨?_, ?_⟩
      · rintro w ⟨r0, r1, r2, r3, r4, r5⟩; go_simp; try with_reducible rfl
      simp only [Act.put, List.setIfInBounds_toArray, List.set_cons_succ, List.set_cons_zero]
      refine Lim.stepE 18 (fun _ => trivial) rfl (by kernel_rfl) rfl (fun K hK => ?_)   -- E store
      have hsp := span_at (S := w4.heap.size) (owns_below (by have h := HO.out.1; rw [← HL.out.1] at h; exact h) HB9.out) HV.out.2.1
      obtain ⟨⟨c1, c2⟩, c3, c4⟩ := hsp
      go_simp
      have nf : ∀ {r : Nat}, r < w4.heap.size ∨ r = p → r ≠ g9 := fun {r} hr e => by
        have := HN.out
        rcases hr with hr | hr
        · omega
        · exact this.2.2.2.2.2.1 (e.symm.trans hr)
      have HF : Hid (fb < w4.heap.size ∧ q < w4.heap.size) := Lib.hid (by have := HFV.out.1; have := HR.out.1; have := HN.out; omega)
      have kp : ∀ {r o : Nat} {u : Value}, r < w4.heap.size ∨ r = p → w9.cell? ⟨r, o, none⟩ = some u → ((w9.setCell ⟨g9, k1 * 2, none⟩ (.int .i64 s1)).setCell ⟨g9, k1 * 2 + 1, none⟩ (.int .i64 s2)).cell? ⟨r, o, none⟩ = some u := fun {r o u} hr h => by
        rw [setCell_farP _ _ (Ne.symm (nf hr)), setCell_farP _ _ (Ne.symm (nf hr))]; exact h
      have hC4 : (fun W => W.cell? ⟨p, 0, none⟩ = some (.slice (some ⟨g9, 0, none⟩) fl c9) ∧ W.cell? ⟨q, 0, none⟩ = some (.slice (some ⟨fb, fo, none⟩) fl fc) ∧ W.cell? ⟨fb, fo + k1 * 2, none⟩ = some (.int .i64 a1) ∧ W.cell? ⟨fb, fo + k1 * 2 + 1, none⟩ = some (.int .i64 a2) ∧ W.cell? ⟨fb, fo + k * 2, none⟩ = some (.int .i64 d1) ∧ W.cell? ⟨fb, fo + k * 2 + 1, none⟩ = some (.int .i64 d2)) ((w9.setCell ⟨g9, k1 * 2, none⟩ (.int .i64 s1)).setCell ⟨g9, k1 * 2 + 1, none⟩ (.int .i64 s2)) := ⟨kp (.inr rfl) hC3.1, kp (.inl HF.out.2) hC3.2.1, kp (.inl HF.out.1) hC3.2.2.1, kp (.inl HF.out.1) hC3.2.2.2.1, kp (.inl HF.out.1) hC3.2.2.2.2.1, kp (.inl HF.out.1) hC3.2.2.2.2.2⟩
      have HW10 : Hid (((w9.setCell ⟨g9, k1 * 2, none⟩ (.int .i64 s1)).setCell ⟨g9, k1 * 2 + 1, none⟩ (.int .i64 s2)).ownsRow w4.heap.size 28 2 (.slice (some ⟨g9, 0, none⟩) fl c9) fl (spans (fs.set k1 (s1, s2))) ∧ Below w.heap.size w ((w9.setCell ⟨g9, k1 * 2, none⟩ (.int .i64 s1)).setCell ⟨g9, k1 * 2 + 1, none⟩ (.int .i64 s2)) ∧
          RS w6.heap.size ((w9.setCell ⟨g9, k1 * 2, none⟩ (.int .i64 s1)).setCell ⟨g9, k1 * 2 + 1, none⟩ (.int .i64 s2)) (.slice (some ⟨g16, 0, none⟩) (ml - 1) c16) (ml - 1) (ints (ms.eraseIdx k)) ∧
          (∀ {r o : Nat} {u : Value}, r < w4.heap.size ∨ r = p → w9.cell? ⟨r, o, none⟩ = some u → ((w9.setCell ⟨g9, k1 * 2, none⟩ (.int .i64 s1)).setCell ⟨g9, k1 * 2 + 1, none⟩ (.int .i64 s2)).cell? ⟨r, o, none⟩ = some u) ∧
          (∀ a, ((w9.setCell ⟨g9, k1 * 2, none⟩ (.int .i64 s1)).setCell ⟨g9, k1 * 2 + 1, none⟩ (.int .i64 s2)).frozen? a = w9.frozen? a) ∧ w6.heap.size ≤ ((w9.setCell ⟨g9, k1 * 2, none⟩ (.int .i64 s1)).setCell ⟨g9, k1 * 2 + 1, none⟩ (.int .i64 s2)).heap.size) := Lib.hid (by
        have hg : w.heap.size ≤ g9 := by have := HN.out; omega
        refine ⟨span_put (owns_below (by have h := HO.out.1; rw [← HL.out.1] at h; exact h) HB9.out) k1 s1 s2, ((HB6.out.trans (HB9.out.mono HB6.out.size)).setCell (p := ⟨g9, k1 * 2, none⟩) hg _).setCell (p := ⟨g9, k1 * 2 + 1, none⟩) hg _, rs_set (rs_set ((RS.of_owns HO.out.2.1).below HB9.out) (Ne.symm HN.out.2.2.2.2.2.2.2.1)) (Ne.symm HN.out.2.2.2.2.2.2.2.1), kp, fun a => by rw [World.frozen?_setCell, World.frozen?_setCell], by have := HB9.out.size; simp [World.setCell]; omega⟩)
      refine hK _ _ hC4 ?_
      clear hC3 nf kp c1 c2 c3 c4
      generalize (w9.setCell ⟨g9, k1 * 2, none⟩ (.int .i64 s1)).setCell ⟨g9, k1 * 2 + 1, none⟩ (.int .i64 s2) = w10 at hC4 HW10 ⊢
      simp only [Act.put, List.setIfInBounds_toArray, List.set_cons_succ, List.set_cons_zero]
      refine Lim.stepD (by kernel_rfl) ?_
      have z0 := hC4.1
      have hd := delS_any (by omega) HV.out.2.2.1 (by rw [List.length_set]; exact HL.out.1) HW10.out.1
      have e : ((k + 1 : Nat) : Int) = (k : Int) + 1 := by omega
      rw [e] at hd
      have HDEL := Lib.hid hd
      have HX0 := Lib.hid z0
      clear hd e hC4
      go_wp2_with fail
      refine HDEL.out.mono ?_
      rintro e w11 ⟨rfl, ho11, hg11⟩
      have hpl : p < w10.heap.size := World.block_lt_of_cell? _ _ HX0.out
      have hql : q + 1 < w10.heap.size := by have := HN.out; have := HW10.out.2.2.2.2.2; omega
      have bp : w11.heap[p]? = w10.heap[p]? := hg11.block p hpl (fun e => HN.out.2.2.2.2.2.1 (Option.some.inj e).symm)
      have bq : w11.heap[q + 1]? = w10.heap[q + 1]? := hg11.block (q + 1) hql (fun e => by have := HN.out; have := Option.some.inj e; omega)
      have cp : ∀ o u, w6.cell? ⟨p, o, none⟩ = some u → w11.cell? ⟨p, o, none⟩ = some u := fun o u h => (World.cell?_of_block (w := w10) (a := ⟨p, o, none⟩) bp).trans (HW10.out.2.2.2.1 (.inr rfl) (HB9.out.on h))
      have cq : ∀ o u, w6.cell? ⟨q + 1, o, none⟩ = some u → w11.cell? ⟨q + 1, o, none⟩ = some u := fun o u h => (World.cell?_of_block (w := w10) (a := ⟨q + 1, o, none⟩) bq).trans (HW10.out.2.2.2.1 (.inl HN.out.2.1) (HB9.out.on h))
      have fzz : ∀ (r o : Nat) (u : Value), w11.heap[r]? = w10.heap[r]? → w6.cell? ⟨r, o, none⟩ = some u → w6.frozen? ⟨r, o, none⟩ = false → w11.frozen? ⟨r, o, none⟩ = false := fun r o u hb h hf => by
        rw [World.frozen?_of_block (w := w10) (a := ⟨r, o, none⟩) hb, HW10.out.2.2.2.2.1, HB9.out.frozen (p := ⟨r, o, none⟩) (World.block_lt_of_cell? _ _ h)]; exact hf
      have x0 : w11.cell? ⟨p, 0, none⟩ = some (.slice (some ⟨g9, 0, none⟩) fl c9) := (World.cell?_of_block (w := w10) (a := ⟨p, 0, none⟩) bp).trans HX0.out
      have x1 := cp 1 _ HY.out.1
      have x2 : w11.frozen? ⟨p, 0, none⟩ = false := by
        have h := HY.out.2.1
        rw [World.frozen?_of_block (w := w10) (a := ⟨p, 0, none⟩) bp, HW10.out.2.2.2.2.1, HB9.out.frozen (p := ⟨p, 0, none⟩) (show p < w6.heap.size from World.block_lt_of_cell? _ _ HY.out.1)]; exact h
      have y0 := cq 0 _ HY.out.2.2.1
      have y1 := cq 1 _ HY.out.2.2.2.1
      have y2 := fzz (q + 1) 0 _ bq HY.out.2.2.1 HY.out.2.2.2.2.1
      have y3 := fzz (q + 1) 1 _ bq HY.out.2.2.2.1 HY.out.2.2.2.2.2
      have HW11 : Hid (Below w.heap.size w w11 ∧ RS w11.heap.size w11 (.slice (some ⟨g9, 0, none⟩) (fl - 1) c9) (fl - 1) (spans ((fs.set k1 (s1, s2)).eraseIdx k)) ∧ RS w11.heap.size w11 (.slice (some ⟨g16, 0, none⟩) (ml - 1) c16) (ml - 1) (ints (ms.eraseIdx k))) := Lib.hid (by
        refine ⟨HW10.out.2.1.grown hg11 HW10.out.2.1.size (fun r e => by have := HN.out; have := Option.some.inj e; omega), RS.of_owns ho11, ?_⟩
        have h := HW10.out.2.2.1
        obtain ⟨a, c, e, h2⟩ := h
        cases e
        refine ⟨_, _, rfl, fun hx => ?_⟩
        obtain ⟨b, o, e, h3, h4⟩ := h2 hx
        cases e
        have := HW10.out.2.2.2.2.2
        have := hg11.size
        refine ⟨g16, 0, rfl, by omega, fun j u hj => ?_⟩
        rw [World.cell?_of_block (w := w10) (a := ⟨g16, 0 + j, none⟩) (hg11.block g16 (by omega) (fun e => HN.out.2.2.2.2.2.2.2.1 (Option.some.inj e).symm))]
        exact h4 j u hj)
      have HWL : Hid ((woF fs k).length = fl - 1) := Lib.hid (by rw [HSS.out, List.length_eraseIdx_of_lt (by rw [List.length_set, ← HL.out.1]; exact HV.out.2.2.1), List.length_set, HL.out.1])
      clear z0 bp bq cp cq fzz ho11 hg11 HX0 hpl hql
      go_wp2
      obtain ⟨e1, e2, e3, e4, e5⟩ := wo_end (p := p) (q := q) HW11.out.1 HN.out.1 (by have := HN.out; have := HB4.out.size; omega) HW11.out.2.1 HW11.out.2.2 HN.out.2.2.2.2.2.1 (by have := HN.out; omega) HN.out.2.2.2.2.2.2.1 (by have := HN.out; omega) HN.out.2.2.2.2.2.2.2.2.2.2 (by rw [y0]; rfl) (by rw [y1]; rfl) rfl
      refine bodyPost_ret (v := .agg #[.slice (some ⟨g9, 0, none⟩) (fl - 1) c9, .slice (some ⟨g16, 0, none⟩) (ml - 1) c16]) (by simp [results, Try.f63, go_sem, e4, e5]) rfl ⟨_, _, rfl, e1, ?_, by rw [HO.out.2.2]; exact e3⟩
      rw [HWL.out, HSS.out]
      exact e2
end Go.Proofs.Ytohjinbgbfggcaa
/-
  Which stone alone can be wrong: the contract of Wrong.
-/
namespace Go.Proofs.Ytohjinbgbfggcaa
open Go.RowKit Go.Shelf
open Lim
attribute [local go_sem] Oper.semAt_some

/-- finds without stone k -/
def wo (d : Rd) (k : Nat) : Rd := ⟨d.r, woF d.f k, d.m.eraseIdx k⟩
theorem asked_sp {d : Rd} (h : d.err = 0) : ∀ s ∈ d.f, 1 ≤ s.1 ∧ s.1 ≤ s.2 ∧ s.2 ≤ 20000 := by
  unfold Rd.err at h
  split at h
  · cases h
  split at h
  · cases h
  rename_i h1 h2
  intro s hs
  have h3 : rightS s 1 20000 = true := by
    cases e : rightS s 1 20000 with
    | true => rfl
    | false =>
      have : Rd.wrongS d.f = true := List.any_eq_true.2 ⟨s, hs, by rw [e]; rfl⟩
      exact absurd (.inr (.inl this)) h2
  exact rightS_iff.1 h3
theorem woF_len {fs : List (Int × Int)} {k : Nat} (hk : k < fs.length + 1) : (woF fs k).length = fs.length - 1 := by
  unfold woF
  split
  · exact List.length_drop
  split
  · rw [List.length_take]; omega
  · rw [List.length_eraseIdx_of_lt (by rw [List.length_set]; omega), List.length_set]
theorem woF_mem {fs : List (Int × Int)} {k : Nat} (hk : k < fs.length + 1) {s : Int × Int} (h : s ∈ woF fs k) : s ∈ fs ∨ (0 < k ∧ k < fs.length ∧ s = ((fs.getD (k - 1) (0, 0)).1 + (fs.getD k (0, 0)).1, (fs.getD (k - 1) (0, 0)).2 + (fs.getD k (0, 0)).2)) := by
  unfold woF at h
  split at h
  · exact .inl (List.mem_of_mem_drop h)
  split at h
  · exact .inl (List.mem_of_mem_take h)
  · have h2 := List.mem_of_mem_eraseIdx h
    rcases List.mem_or_eq_of_mem_set h2 with h3 | h3
    · exact .inl h3
    · exact .inr ⟨by omega, by omega, h3⟩
theorem getD_mem {α : Type} {l : List α} {j : Nat} {z : α} (hj : j < l.length) : l.getD j z ∈ l := by
  rw [List.getD_eq_getElem?_getD, List.getElem?_eq_getElem hj]; exact List.getElem_mem hj
theorem wo_ok {d : Rd} (he : d.err = 0) {k : Nat} (h2 : 2 ≤ d.m.length) (hk : k < d.m.length) : RdOk (wo d k) := by
  have ho := asked_ok he
  have hfm := ho.fm
  have hm : (d.m.eraseIdx k).length = d.m.length - 1 := List.length_eraseIdx_of_lt hk
  have hf : (woF d.f k).length = d.f.length - 1 := woF_len (by omega)
  have m40 := ho.m40
  refine ⟨ho.rr, fun s hs => ?_, ho.r1, ho.r39, by show (d.m.eraseIdx k).length ≤ 40; omega, by show 1 ≤ (d.m.eraseIdx k).length; omega, by show (woF d.f k).length + 1 = (d.m.eraseIdx k).length; omega⟩
  rcases woF_mem (by omega) hs with h | ⟨h0, h1, rfl⟩
  · have := asked_sp he s h; omega
  · have a := asked_sp he _ (getD_mem (l := d.f) (j := k - 1) (z := (0, 0)) (by omega))
    have b := asked_sp he _ (getD_mem (l := d.f) (j := k) (z := (0, 0)) h1)
    show 0 ≤ (_ : Int) ∧ (_ : Int) ≤ _ ∧ (_ : Int) ≤ _
    simp only
    omega
theorem le_sum_mem {x : Nat} : ∀ {l : List Nat}, x ∈ l → x ≤ l.sum
  | y :: l, h => by
    rw [List.sum_cons]
    rcases List.mem_cons.1 h with rfl | h
    · omega
    · have := le_sum_mem h; omega
/-- one stone alone has a reading -/
theorem one_reads {d : Rd} (he : d.err = 0) (h1 : d.m.length = 1) : 0 < total d := by
  obtain ⟨x, hx⟩ : ∃ x, d.m = [x] := List.length_eq_one_iff.1 h1
  have hn := asked_nm he x (by rw [hx]; simp)
  have ho := asked_ok he
  obtain ⟨b, hb, hc⟩ : ∃ b : Nat, b < d.r.length + 1 ∧ canB d 0 b = true := by
    by_cases e : x = -1
    · exact ⟨0, by omega, by simp [canB, hx, e]⟩
    · exact ⟨x.toNat, by omega, by simp [canB, hx]; omega⟩
  unfold total
  rw [h1]
  have hmem : cnt d 0 b ∈ (List.range (d.r.length + 1)).map (cnt d 0) := List.mem_map.2 ⟨b, by simpa using hb, rfl⟩
  have h2 : cnt d 0 b = 1 := by rw [cnt, if_pos hc]
  have h3 := le_sum_mem hmem
  simp only [Nat.sub_self]
  omega
/-- the stones, up to k, that alone can be wrong -/
def wrongTo (d : Rd) (k : Nat) : List Int := ((List.range k).filter fun i => decide (0 < total (wo d i))).map Int.ofNat
theorem wrongTo_len (d : Rd) (k : Nat) : (wrongTo d k).length ≤ k := by
  unfold wrongTo
  rw [List.length_map]
  exact Nat.le_trans (List.length_filter_le _ _) (by simp)
theorem wrongTo_add {d : Rd} {k : Nat} (h : 0 < total (wo d k)) : wrongTo d (k + 1) = wrongTo d k ++ [(k : Int)] := by
  unfold wrongTo
  rw [List.range_succ, List.filter_append, List.map_append]
  simp [h]
theorem wrongTo_skip {d : Rd} {k : Nat} (h : ¬ 0 < total (wo d k)) : wrongTo d (k + 1) = wrongTo d k := by
  unfold wrongTo
  rw [List.range_succ, List.filter_append, List.map_append]
  simp [h]
/-- what Wrong answers -/
def WrAns (d : Rd) (S : Nat) (v : Value) (er : Int) (W : World) : Prop :=
  (d.err ≠ 0 ∧ er = d.err ∧ v = .slice none 0 0) ∨ (d.err = 0 ∧ 0 < total d ∧ er = 10 ∧ v = .slice none 0 0) ∨
  (d.err = 0 ∧ total d = 0 ∧ er = 0 ∧ W.ownsRow S 3 1 v (wrongTo d d.m.length).length (ints (wrongTo d d.m.length)))
set_option maxRecDepth 20000 in
set_option maxHeartbeats 2000000 in
theorem Wrong_any {B : Nat} {d : Rd} {rv fv mv : Value} {w : World} (hB : B ≤ w.heap.size) (hr : RS B w rv d.r.length (spans d.r)) (hcap : ∀ a c, rv = .slice a d.r.length c → d.r.length ≤ c) (hf : RS B w fv d.f.length (spans d.f)) (hm : RS B w mv d.m.length (ints d.m)) :
    Calls Try.prog 37 #[.agg #[rv], .agg #[fv, mv]] w fun e w' => ∃ v er, e = .returned (.tuple #[v, .int .i64 er]) ∧ Below w.heap.size w w' ∧ WrAns d w.heap.size v er w' := by
  have HR := Lib.hid (And.intro hB (And.intro hr (And.intro hf hm)))
  obtain ⟨ra, rc, rfl, -⟩ := hr
  have hrc := hcap _ _ rfl
  obtain ⟨fa, fc, rfl, -⟩ := hf
  obtain ⟨ma, mc, rfl, -⟩ := hm
  obtain ⟨rl, hrl⟩ : ∃ x, x = d.r.length := ⟨_, rfl⟩
  obtain ⟨fl, hfl⟩ : ∃ x, x = d.f.length := ⟨_, rfl⟩
  obtain ⟨ml, hml⟩ : ∃ x, x = d.m.length := ⟨_, rfl⟩
  have HL := Lib.hid (And.intro hrl (And.intro hfl hml))
  have HRC := Lib.hid hrc
  have HAK : Hid (∀ W, Below w.heap.size w W → Calls Try.prog 59 #[.agg #[.slice ra rl rc], .agg #[.slice fa fl fc, .slice ma ml mc]] W fun e w' => e = .returned (.int .i64 d.err) ∧ Below W.heap.size W w') := Lib.hid fun W hW => by
    rw [hrl, hfl, hml]
    exact asked_any (Nat.le_trans HR.out.1 hW.size) (HR.out.2.1.below (hW.mono HR.out.1)) (HR.out.2.2.1.below (hW.mono HR.out.1)) (HR.out.2.2.2.below (hW.mono HR.out.1))
  have HAL : Hid (d.err = 0 → ∀ W, Below w.heap.size w W → Calls Try.prog 62 #[.agg #[.slice ra rl rc], .agg #[.slice fa fl fc, .slice ma ml mc]] W fun e w' => e = .returned (.int .i64 (total d)) ∧ Below W.heap.size W w') := Lib.hid fun he W hW => by
    rw [hrl, hfl, hml]
    exact all_any (asked_ok he) (Nat.le_trans HR.out.1 hW.size) (HR.out.2.1.below (hW.mono HR.out.1)) HRC.out (HR.out.2.2.1.below (hW.mono HR.out.1)) (HR.out.2.2.2.below (hW.mono HR.out.1))
  rw [← hrl, ← hfl, ← hml] at HR
  rw [← hrl, ← hfl, ← hml]
  have HM : Hid (Below w.heap.size w ((w.alloc (.cells #[.slice ra rl rc] 87)).alloc (.cells #[.slice fa fl fc, .slice ma ml mc] 90)) ∧ ((w.alloc (.cells #[.slice ra rl rc] 87)).alloc (.cells #[.slice fa fl fc, .slice ma ml mc] 90)).cell? ⟨w.heap.size, 0, none⟩ = some (.slice ra rl rc) ∧ ((w.alloc (.cells #[.slice ra rl rc] 87)).alloc (.cells #[.slice fa fl fc, .slice ma ml mc] 90)).cell? ⟨w.heap.size + 1, 0, none⟩ = some (.slice fa fl fc) ∧ ((w.alloc (.cells #[.slice ra rl rc] 87)).alloc (.cells #[.slice fa fl fc, .slice ma ml mc] 90)).cell? ⟨w.heap.size + 1, 1, none⟩ = some (.slice ma ml mc)) := Lib.hid (by
    refine ⟨((Below.refl _ w).alloc (Nat.le_refl _) _).alloc (by simp) _, ?_, ?_, ?_⟩ <;> simp [go_sem])
  obtain ⟨er, her⟩ : ∃ x, x = d.err := ⟨_, rfl⟩
  rw [← her] at HAK
  have HER := Lib.hid her
  clear hB hrl hfl hml her hcap hrc
  have HWO : Hid (d.err = 0 → 2 ≤ ml → ∀ k : Nat, k < ml → ∀ W, Below w.heap.size w W → Calls Try.prog 63 #[.agg #[.slice fa fl fc, .slice ma ml mc], .int .i64 k] W fun e w' => ∃ gv mv', e = .returned (.agg #[gv, mv']) ∧ Below W.heap.size W w' ∧ RS w'.heap.size w' gv (wo d k).f.length (spans (wo d k).f) ∧ RS w'.heap.size w' mv' (wo d k).m.length (ints (wo d k).m)) := Lib.hid fun he h2 k hk W hW => by
    obtain ⟨e1, e2, e3⟩ := HL.out
    have h3 := HR.out.2.2.1
    have h4 := HR.out.2.2.2
    rw [e2] at h3
    rw [e3] at h4 h2 hk
    rw [e2, e3]
    have ho := asked_ok he
    exact without_any hk h2 ho.fm ho.m40 ho.fr (Nat.le_trans HR.out.1 hW.size) (h3.below (hW.mono HR.out.1)) (h4.below (hW.mono HR.out.1))
  have HAW : Hid (d.err = 0 → 2 ≤ ml → ∀ k : Nat, k < ml → ∀ (W : World) (gv mv' : Value), Below w.heap.size w W → RS W.heap.size W gv (wo d k).f.length (spans (wo d k).f) → RS W.heap.size W mv' (wo d k).m.length (ints (wo d k).m) → Calls Try.prog 62 #[.agg #[.slice ra rl rc], .agg #[gv, mv']] W fun e w' => e = .returned (.int .i64 (total (wo d k))) ∧ Below W.heap.size W w') := Lib.hid fun he h2 k hk W gv mv' hW h3 h4 => by
    obtain ⟨e1, e2, e3⟩ := HL.out
    have h5 := HR.out.2.1
    rw [e1] at h5
    rw [e3] at h2 hk
    rw [e1]
    exact all_any (d := wo d k) (wo_ok he h2 hk) (Nat.le_refl _) ((h5.below (hW.mono HR.out.1)).mono (Nat.le_trans HR.out.1 hW.size)) HRC.out h3 h4
  go_enter Try.func37, Try.ntmps37
  go_upto_region 1 with (fail)
  obtain ⟨q, hq⟩ : ∃ q, q = w.heap.size := ⟨_, rfl⟩
  have HQ := Lib.hid hq.symm
  rw [← hq] at HM
  simp only [← hq]
  clear hq
  generalize ((w.alloc (.cells #[.slice ra rl rc] 87)).alloc (.cells #[.slice fa fl fc, .slice ma ml mc] 90)) = w1 at HM ⊢
  obtain ⟨-, k0, k1, k2⟩ := HM.out
  have HW1 : Hid (Below w.heap.size w w1) := Lib.hid (by rw [HQ.out]; exact HM.out.1)
  clear HM
  go_wp2_with fail
  refine (HAK.out _ HW1.out).mono ?_
  rintro e w2 ⟨rfl, hb2⟩
  have m0 := hb2.on k0
  have m1 := hb2.on k1
  have m2 := hb2.on k2
  have HW2 : Hid (Below w.heap.size w w2) := Lib.hid (HW1.out.trans (hb2.mono HW1.out.size))
  clear hb2 k0 k1 k2 HAK
  by_cases he : er = 0
  · have d1 : (er != 0) = false := by simp [he]
    have HE : Hid (d.err = 0) := Lib.hid (by rw [← HER.out]; exact he)
    have hok := asked_ok HE.out
    have m40 : ml ≤ 40 := by rw [HL.out.2.2]; exact hok.m40
    have HO := Lib.hid hok
    obtain ⟨tt, htt⟩ : ∃ x, x = total d := ⟨_, rfl⟩
    have HT := Lib.hid htt
    have H1 := Lib.hid (HAL.out HE.out w2 HW2.out)
    rw [← htt] at H1
    clear he hok htt HAL
    go_wp2_with fail
    refine H1.out.mono ?_
    rintro e w3 ⟨rfl, hb3⟩
    have HW3 : Hid (Below w.heap.size w w3) := Lib.hid (HW2.out.trans (hb3.mono HW2.out.size))
    have n0 := hb3.on m0
    have n1 := hb3.on m1
    have n2 := hb3.on m2
    clear hb3 m0 m1 m2 H1
    by_cases h0 : 0 < tt
    · have HT0 : Hid (0 < total d) := Lib.hid (by rw [← HT.out]; exact h0)
      clear n0 n1 n2
      go_wp2
      go_ret2
      exact ⟨_, _, rfl, HW3.out, .inr (.inl ⟨HE.out, HT0.out, rfl, rfl⟩)⟩
    · obtain rfl : tt = 0 := by omega
      have HT0 : Hid (total d = 0 ∧ 2 ≤ ml) := Lib.hid (by
        have h1 := HT.out
        refine ⟨h1.symm, ?_⟩
        have h2 := HO.out.m1
        have h3 := HL.out.2.2
        rcases Nat.lt_or_ge ml 2 with h | h
        · have := one_reads HE.out (by omega); omega
        · exact h)
      have HN := Lib.hid (And.intro n0 (And.intro n1 n2))
      obtain ⟨i0, hi, hz0, hz1, hz2⟩ := info_parts Try.infoInt
      have HIN := Lib.hid (And.intro hi (And.intro hz0 (And.intro hz1 hz2)))
      clear n0 n1 hi hz0 hz1 hz2 h0
      go_wp2_with fail
      clear n2
      go_loopw [7, 24] (fun lv kv wr => ∃ k : Nat, k ≤ ml ∧ kv = .int .i64 k ∧ Hid (Below w3.heap.size w3 wr) ∧ Hid (wr.ownsRow w3.heap.size 3 1 lv (wrongTo d k).length (ints (wrongTo d k)))) (fun _ kv _ => ml - (intOf kv).toNat)
      case atStart => exact ⟨0, Nat.zero_le _, by go_num, Lib.hid (Below.refl _ _), Lib.hid (ownsRow_zero _ _ _ _)⟩
      case round =>
        obtain ⟨k, hk, rfl, HBk, HLk⟩ := hrel
        by_cases hlt : k < ml
        · have g1 : decide ((k : Int) < ml) = true := decide_eq_true (by omega)
          obtain ⟨tk, htk⟩ : ∃ x, x = total (wo d k) := ⟨_, rfl⟩
          have HTK := Lib.hid htk
          have HBw : Hid (Below w.heap.size w wr) := Lib.hid (HW3.out.trans (HBk.out.mono HW3.out.size))
          have HW9 := Lib.hid (HWO.out HE.out HT0.out.2 k hlt)
          have HA9 := HAW.out HE.out HT0.out.2 k hlt
          rw [← htk] at HA9
          have HA9 := Lib.hid HA9
          clear htk
          go_wp2_with fail
          obtain ⟨n0, n1, n2⟩ := HN.out
          have HB4 : Hid (Below wr.heap.size wr wr.drew) := Lib.hid (Below.refl _ wr).drew
          have hC : (fun W => W.cell? ⟨q, 0, none⟩ = some (.slice ra rl rc) ∧ W.cell? ⟨q + 1, 0, none⟩ = some (.slice fa fl fc) ∧ W.cell? ⟨q + 1, 1, none⟩ = some (.slice ma ml mc)) wr.drew := ⟨HBk.out.on n0, HBk.out.on n1, HBk.out.on n2⟩
          clear n0 n1 n2
          generalize hW0 : wr.drew = w4 at HB4 hC
          refine Lim.regC' (fun W => W.cell? ⟨q, 0, none⟩ = some (.slice ra rl rc) ∧ W.cell? ⟨q + 1, 0, none⟩ = some (.slice fa fl fc) ∧ W.cell? ⟨q + 1, 1, none⟩ = some (.slice ma ml mc)) [] #[false, false, false, false, false, false] (by kernel_rfl) rfl ?_
          rw [hW0]; clear hW0
          refine Lim.stepR 0 (fun _ => trivial) rfl (by kernel_rfl) (fun _ _ _ _ h => h) hC rfl ?_; apply Exists.intro; refine ⟨?_, ?_⟩
          · rintro w ⟨r0, r1, r2⟩; go_simp; try with_reducible rfl
          simp only [Act.put, List.setIfInBounds_toArray, List.set_cons_succ, List.set_cons_zero]
          refine Lim.stepR 1 (fun _ => trivial) rfl (by kernel_rfl) (fun _ _ _ _ h => h) hC rfl ?_; apply Exists.intro; refine ⟨?_, ?_⟩
          · rintro w ⟨r0, r1, r2⟩; go_simp; try with_reducible rfl
          simp only [Act.put, List.setIfInBounds_toArray, List.set_cons_succ, List.set_cons_zero]
          refine Lim.stepR 2 (fun _ => trivial) rfl (by kernel_rfl) (fun _ _ _ _ h => h) hC rfl ?_; apply Exists.intro; refine ⟨?_, ?_⟩
          · rintro w ⟨r0, r1, r2⟩; go_simp; try with_reducible rfl
          simp only [Act.put, List.setIfInBounds_toArray, List.set_cons_succ, List.set_cons_zero]
          refine Lim.stepE 3 (fun _ => trivial) rfl (by kernel_rfl) rfl (fun K hK => ?_)   -- E call
          go_simp
          refine ⟨rfl, (callsIn_wide.2 (HW9.out _ (HBw.out.trans (HB4.out.mono HBw.out.size)))).mono ?_⟩
          rintro e w5 ⟨gv, mv', rfl, hb5, hg, hmm⟩
          have HB5 : Hid (Below wr.heap.size wr w5) := Lib.hid (HB4.out.trans (hb5.mono HB4.out.size))
          have HG5 := Lib.hid (And.intro hg hmm)
          have hC2 : (fun W => W.cell? ⟨q, 0, none⟩ = some (.slice ra rl rc) ∧ W.cell? ⟨q + 1, 0, none⟩ = some (.slice fa fl fc) ∧ W.cell? ⟨q + 1, 1, none⟩ = some (.slice ma ml mc)) w5 := ⟨hb5.on hC.1, hb5.on hC.2.1, hb5.on hC.2.2⟩
          clear hb5 hg hmm hC
          refine hK _ _ hC2 ?_
          simp only [Act.put, List.setIfInBounds_toArray, List.set_cons_succ, List.set_cons_zero]
          refine Lim.stepE 4 (fun _ => trivial) rfl (by kernel_rfl) rfl (fun K hK => ?_)   -- E call
          go_simp
          refine ⟨rfl, (callsIn_wide.2 (HA9.out _ _ _ (HBw.out.trans (HB5.out.mono HBw.out.size)) HG5.out.1 HG5.out.2)).mono ?_⟩
          rintro e w6 ⟨rfl, hb6⟩
          have HB6 : Hid (Below wr.heap.size wr w6) := Lib.hid (HB5.out.trans (hb6.mono HB5.out.size))
          have hC3 : (fun W => W.cell? ⟨q, 0, none⟩ = some (.slice ra rl rc) ∧ W.cell? ⟨q + 1, 0, none⟩ = some (.slice fa fl fc) ∧ W.cell? ⟨q + 1, 1, none⟩ = some (.slice ma ml mc)) w6 := ⟨hb6.on hC2.1, hb6.on hC2.2.1, hb6.on hC2.2.2⟩
          clear hb6 hC2
          refine hK _ _ hC3 ?_
          simp only [Act.put, List.setIfInBounds_toArray, List.set_cons_succ, List.set_cons_zero]
          refine Lim.stepR 5 (fun _ => trivial) rfl (by kernel_rfl) (fun _ _ _ _ h => h) hC3 rfl ?_; apply Exists.intro; refine ⟨?_, ?_⟩
          · rintro w ⟨r0, r1, r2⟩; go_simp; try with_reducible rfl
          simp only [Act.put, List.setIfInBounds_toArray, List.set_cons_succ, List.set_cons_zero]
          refine Lim.stepD (by kernel_rfl) ?_
          obtain ⟨la, lc, rfl⟩ : ∃ a c, u7 = .slice a (wrongTo d k).length c := by
            rcases HLk.out.2 with ⟨e1, e2⟩ | ⟨g, cap, cur, e1, -⟩
            · exact ⟨none, 0, by rw [e1, e2]⟩
            · exact ⟨_, cap, e1⟩
          have hln := wrongTo_len d k
          have HLN := Lib.hid hln
          have HB7 : Hid (Below w3.heap.size w3 w6) := Lib.hid (HBk.out.trans (HB6.out.mono HBk.out.size))
          have HL6 := Lib.hid (owns_below HLk.out HB6.out)
          clear hln hC3 HA9 HW9 HBw HB4 HB5 HG5
          by_cases hA : 0 < tk
          · have HS : Hid (wrongTo d (k + 1) = wrongTo d k ++ [(k : Int)]) := Lib.hid (wrongTo_add (by rw [← HTK.out]; exact hA))
            obtain ⟨L, hL⟩ : ∃ L, L = wrongTo d k := ⟨_, rfl⟩
            rw [← hL] at HL6 HLN HS ⊢
            obtain ⟨ll, hll⟩ : ∃ x, x = L.length := ⟨_, rfl⟩
            rw [← hll] at HL6 ⊢
            have HLL := Lib.hid hll
            have h1u : ∀ u ∈ [Value.int .i64 (k : Int)], u.oneCell' = true := by simp [Value.oneCell']
            clear hL hll
            go_wp2_with (at_builtin; refine wpList_append_own _ rfl _ _ 25 rfl w3.heap.size 3 i0 (.int .i64 0) 1 8 Try.underlying25 HIN.out.1 HIN.out.2.1 HIN.out.2.2.1 HIN.out.2.2.2 rfl (by decide) (.slice la ll lc) ll (ints L) rfl (HL6.out.alloc _) ⟨w6.heap.size, 0, none⟩ 1 1 [.int .i64 k] rfl rfl (cell_one_new _ _ _) h1u (by have := HLN.out; have := HLL.out; unfold maxLen; omega) (by have := HLN.out; have := HLL.out; omega) (by have := HB7.out.size; simp; omega) ?_; intro v' w7 hown hgr _)
            exact ⟨⟨k + 1, by omega, by go_num, Lib.hid ((HB7.out.alloc HB7.out.size _).grown hgr (by have := HB7.out.size; simp; omega) (fun k e => (HL6.out.lt k e).1)), Lib.hid (by rw [HS.out, List.length_append, ← HLL.out]; simpa [ints] using hown)⟩, by simp [intOf]; omega⟩
          · have HS : Hid (wrongTo d (k + 1) = wrongTo d k) := Lib.hid (wrongTo_skip (by rw [← HTK.out]; exact hA))
            go_wp2_with fail
            exact ⟨⟨k + 1, by omega, by go_num, HB7, by rw [HS.out]; exact HL6⟩, by simp [intOf]; omega⟩
        · obtain rfl : k = ml := by omega
          have g1 : decide ((k : Int) < k) = false := decide_eq_false (by omega)
          go_wp2
          go_ret2
          exact ⟨_, _, rfl, HW3.out.trans (HBk.out.mono HW3.out.size), .inr (.inr ⟨HE.out, HT0.out.1, rfl, by rw [← HL.out.2.2]; exact owns_mono HLk.out HW3.out.size⟩)⟩
  · have d1 : (er != 0) = true := by simp [he]
    have HE : Hid (d.err ≠ 0) := Lib.hid (by rw [← HER.out]; exact he)
    clear he
    go_wp2
    go_ret2
    exact ⟨_, _, rfl, HW2.out, .inl ⟨HE.out, HER.out, rfl⟩⟩
end Go.Proofs.Ytohjinbgbfggcaa
