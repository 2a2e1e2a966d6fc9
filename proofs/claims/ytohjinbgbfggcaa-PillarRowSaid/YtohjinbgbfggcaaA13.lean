/-
  Parts of the proof, in the order in which they build: QiF, QiG, QiH.
-/
import Derived.Test.YtohjinbgbfggcaaA12
import Derived.Test.YtohjinbgbfggcaaB12
import Derived.Test.YtohjinbgbfggcaaC1
import Derived.Test.YtohjinbgbfggcaaB1
import Derived.Test.YtohjinbgbfggcaaA11
set_option linter.unusedVariables false
set_option linter.unusedSimpArgs false
/-
  How many pillars are needed from each place on: the contract of needed.
-/
namespace Go.Proofs.Ytohjinbgbfggcaa
open Go.RowKit Go.Shelf
open Lim
attribute [local go_sem] Oper.semAt_some

/-- the numbers that are needed, as the map has them -/
def needF (N : Nat → Option Nat) (c : Int) : Option Int := if 0 ≤ c then (N c.toNat).map Int.ofNat else none
/-- the map's function with what is known at one place -/
def putN (N : Nat → Option Nat) (i : Nat) (o : Option Nat) : Nat → Option Nat := fun j => if j = i then o else N j
theorem needF_nat (N : Nat → Option Nat) (j : Nat) : needF N j = (N j).map Int.ofNat := by rw [needF, if_pos (by omega)]; rfl
theorem needF_put (N : Nat → Option Nat) (i m : Nat) (o : Option Nat) : (fun x => if x = (i : Int) then some ((m : Nat) : Int) else needF (putN N i o) x) = needF (putN N i (some m)) := by
  funext x
  unfold needF
  by_cases h : 0 ≤ x
  · rw [if_pos h, if_pos h]
    by_cases e : x = (i : Int)
    · rw [if_pos e]; subst e; simp [putN]
    · rw [if_neg e, putN, putN, if_neg (by omega), if_neg (by omega)]
  · rw [if_neg h, if_neg h, if_neg (by omega)]
/-- what lies in memory while needed runs -/
structure NeM (w : World) (b n ac last qm q7 q8 : Nat) (a : Option Addr) (S : Nat → Nat → Bool) (x : Int) (cnt : Nat) (F : Int → Option Int) (W : World) : Prop where
  be : Below w.heap.size w W
  wk : WkN b n ac a S W
  hb : b < w.heap.size
  hq : w.heap.size < qm ∧ qm < q7 ∧ q7 < q8
  c4 : W.cell? ⟨w.heap.size, 0, none⟩ = some (.int .i64 last)
  mp : MapO W qm cnt F
  c7 : W.cell? ⟨q7, 0, none⟩ = some (.map (some qm))
  c8 : W.cell? ⟨q8, 0, none⟩ = some (.int .i64 x)
  f8 : W.frozen? ⟨q8, 0, none⟩ = false
section
variable {w : World} {b n ac last qm q7 q8 : Nat} {a : Option Addr} {S : Nat → Nat → Bool} {x : Int} {cnt : Nat} {F : Int → Option Int} {W W' : World}
theorem NeM.lt (h : NeM w b n ac last qm q7 q8 a S x cnt F W) : q8 < W.heap.size := World.block_lt_of_cell? _ _ h.c8
theorem NeM.grow (h : NeM w b n ac last qm q7 q8 a S x cnt F W) (hb : Below W.heap.size W W') : NeM w b n ac last qm q7 q8 a S x cnt F W' :=
  ⟨h.be.trans (hb.mono h.be.size), h.wk.grow hb, h.hb, h.hq, hb.on h.c4, h.mp.same (hb.block _ h.mp.lt), hb.on h.c7, hb.on h.c8, (hb.frozen (p := ⟨q8, 0, none⟩) h.lt).trans h.f8⟩
theorem NeM.steady (h : NeM w b n ac last qm q7 q8 a S x cnt F W) {B : Nat} (hs : Steady B W W') (hB : q8 < B) : NeM w b n ac last qm q7 q8 a S x cnt F W' := by
  have hq := h.hq
  have hbe := h.be.size
  refine ⟨h.be.steady hs (by omega) hbe, h.wk.steady hs, h.hb, h.hq, hs.cell h.c4, h.mp.same ?_, hs.cell h.c7, hs.cell h.c8, (hs.frozen h.c8).trans h.f8⟩
  have hlt := h.mp.lt
  rw [hs.same qm _ (Array.getElem?_eq_getElem hlt) (.inl (by omega)), Array.getElem?_eq_getElem hlt]
theorem NeM.note (h : NeM w b n ac last qm q7 q8 a S x cnt F W) {cnt' : Nat} {F' : Int → Option Int} (hm : MapO W' qm cnt' F') (hg : W.grownBy W' (some qm)) : NeM w b n ac last qm q7 q8 a S x cnt' F' W' := by
  have hq := h.hq
  have hbl := h.hb
  have hsz := h.be.size
  have hbe : Below w.heap.size W W' := (Below.refl w.heap.size W).grown hg hsz (fun k e => by cases e; omega)
  have hcell : ∀ {p : Addr} {v : Value}, p.block ≠ qm → W.cell? p = some v → W'.cell? p = some v := fun {p v} hne hc => by
    have hl := World.block_lt_of_cell? _ _ hc
    exact (World.cell?_of_block (w := W) (hg.block _ hl (fun e => hne (by cases e; rfl)))).trans hc
  have hc8 := hcell (p := ⟨q8, 0, none⟩) (by show q8 ≠ qm; omega) h.c8
  refine ⟨h.be.trans hbe, ⟨hcell (by show b ≠ qm; omega) h.wk.c0, fun i j hi hj => hcell (by show b ≠ qm; omega) (h.wk.s i j hi hj)⟩, hbl, h.hq, hcell (by show w.heap.size ≠ qm; omega) h.c4, hm, hcell (by show q7 ≠ qm; omega) h.c7, hc8, ?_⟩
  exact (World.frozen?_of_block (w := W) (hg.block q8 h.lt (fun e => by cases e; omega))).trans h.f8
/-- the next number's box -/
theorem NeM.next (h : NeM w b n ac last qm q7 q8 a S x cnt F W) {q9 : Nat} {y : Int} (hW : Below W.heap.size W W') (h9 : q8 < q9) (c9 : W'.cell? ⟨q9, 0, none⟩ = some (.int .i64 y)) (f9 : W'.frozen? ⟨q9, 0, none⟩ = false) : NeM w b n ac last qm q7 q9 a S y cnt F W' := by
  have g := h.grow hW
  have hq := h.hq
  exact ⟨g.be, g.wk, g.hb, ⟨hq.1, hq.2.1, by omega⟩, g.c4, g.mp, g.c7, c9, f9⟩
end
theorem needF_one (last : Nat) : (fun x => if x = (last : Int) then some (1 : Int) else none) = needF (putN (fun _ => none) last (some 1)) := by
  funext x
  unfold needF
  by_cases h : 0 ≤ x
  · rw [if_pos h]
    by_cases e : x = (last : Int)
    · rw [if_pos e]; subst e; simp [putN]
    · rw [if_neg e, putN, if_neg (by omega)]; rfl
  · rw [if_neg h, if_neg (by omega)]
/-- what is known when the places from k on are done -/
structure NeI (n : Nat) (S : Nat → Nat → Bool) (wo : Int) (last k : Nat) (N : Nat → Option Nat) : Prop where
  le : k ≤ last
  known : ∀ j, k ≤ j → j < n → IsNeed n S wo last j (N j)
  none : ∀ j, j < k → N j = none
  far : ∀ j, n ≤ j → N j = .none
theorem NeI.start {n : Nat} {S : Nat → Nat → Bool} {wo : Int} {last : Nat} (hl : last < n) : NeI n S wo last last (putN (fun _ => .none) last (some 1)) := by
  refine ⟨Nat.le_refl _, fun j h1 h2 => ?_, fun j h => ?_, fun j h => by rw [putN, if_neg (by omega)]⟩
  · by_cases e : j = last
    · subst e; rw [putN, if_pos rfl]; exact IsNeed.here
    · rw [putN, if_neg e]; exact IsNeed.beyond (by omega)
  · rw [putN, if_neg (by omega)]
theorem NeI.put {n : Nat} {S : Nat → Nat → Bool} {wo : Int} {last i : Nat} {N : Nat → Option Nat} (h : NeI n S wo last (i + 1) N) (hl : last < n) {o : Option Nat} (ho : IsNeed n S wo last i o) : NeI n S wo last i (putN N i o) := by
  refine ⟨by have := h.le; omega, fun j h1 h2 => ?_, fun j hj => ?_, fun j hj => by rw [putN, if_neg (by have := h.le; omega)]; exact h.far j hj⟩
  · by_cases e : j = i
    · subst e; rw [putN, if_pos rfl]; exact ho
    · rw [putN, if_neg e]; exact h.known j (by omega) h2
  · rw [putN, if_neg (by omega)]; exact h.none j (by omega)
theorem NeI.lost {n : Nat} {S : Nat → Nat → Bool} {wo : Int} {last i : Nat} {N : Nat → Option Nat} (h : NeI n S wo last (i + 1) N) (hi : (i : Int) = wo) : NeI n S wo last i N := by
  refine ⟨by have := h.le; omega, fun j h1 h2 => ?_, fun j hj => h.none j (by omega), h.far⟩
  by_cases e : j = i
  · subst e; rw [h.none j (by omega)]; exact IsNeed.lost hi (by have := h.le; omega)
  · exact h.known j (by omega) h2
theorem NeI.bound {n : Nat} {S : Nat → Nat → Bool} {wo : Int} {last k : Nat} {N : Nat → Option Nat} (h : NeI n S wo last k N) (hn : n ≤ 40) (hl : last < n) {j m : Nat} (hk : k ≤ j) (hj : j < n) (hm : N j = some m) : j ≤ last ∧ 1 ≤ m ∧ m ≤ 41 := by
  obtain ⟨L, h1, h2⟩ := (h.known j hk hj).hit m hm
  have := h1.le
  have := h1.len
  have := h1.pos
  omega
theorem Ca.other {q2 q3 b n i ac q : Nat} {row : Nat → Bool} {a : Option Addr} {w w' : World} (h : Ca q2 q3 b n i row a ac w) (hg : w.grownBy w' (some q)) (h2 : q2 ≠ q) (h3 : q3 ≠ q) (hb : b ≠ q) : Ca q2 q3 b n i row a ac w' := by
  have hcell : ∀ {p : Addr} {v : Value}, p.block ≠ q → w.cell? p = some v → w'.cell? p = some v := fun {p v} hne hc => by
    have hl := World.block_lt_of_cell? _ _ hc
    exact (World.cell?_of_block (w := w) (hg.block _ hl (fun e => hne (by cases e; rfl)))).trans hc
  exact ⟨hcell (p := ⟨q3, 0, .none⟩) h3 h.1, hcell (p := ⟨q2, 0, .none⟩) h2 h.2.1, hcell (p := ⟨b, 0, .none⟩) hb h.2.2.1, fun j hj => hcell (p := ⟨b, 5 + i * 40 + j, .none⟩) hb (h.2.2.2 j hj)⟩
theorem putN_none {N : Nat → Option Nat} {i : Nat} (h : N i = none) : putN N i none = N := by
  funext j
  unfold putN
  by_cases e : j = i
  · rw [if_pos e, e, h]
  · rw [if_neg e]
theorem map_toNat_ahead {row : Nat → Bool} {n i : Nat} (hi : i < n) (j : Nat) : j ∈ (aheadL row n i).map Int.toNat ↔ i < j ∧ j < n ∧ row j = true := by
  rw [List.mem_map]
  constructor
  · rintro ⟨x, hx, rfl⟩
    obtain ⟨k, rfl, h1, h2, h3⟩ := (mem_aheadL hi).1 hx
    exact ⟨h1, h2, h3⟩
  · rintro ⟨h1, h2, h3⟩
    exact ⟨(j : Int), (mem_aheadL hi).2 ⟨j, rfl, h1, h2, h3⟩, rfl⟩
/-- the frame of needed while its loop runs -/
def FrN (b last q4 q7 q8 : Nat) (wo : Int) (a : Act) : Prop :=
  a = { tmps := #[.pointer (some ⟨b, 0, none⟩), .int .i64 last, .int .i64 wo, Lim.sl a 3, .pointer (some ⟨q4, 0, none⟩), Lim.sl a 5, Lim.sl a 6, .pointer (some ⟨q7, 0, none⟩), .pointer (some ⟨q8, 0, none⟩), Lim.sl a 9, Lim.sl a 10, Lim.sl a 11, Lim.sl a 12, Lim.sl a 13, Lim.sl a 14, Lim.sl a 15, Lim.sl a 16, Lim.sl a 17, Lim.sl a 18, Lim.sl a 19, Lim.sl a 20, Lim.sl a 21, Lim.sl a 22, Lim.sl a 23, Lim.sl a 24, Lim.sl a 25, Lim.sl a 26, Lim.sl a 27, Lim.sl a 28, Lim.sl a 29, Lim.sl a 30, Lim.sl a 31, Lim.sl a 32, Lim.sl a 33, Lim.sl a 34, Lim.sl a 35, Lim.sl a 36, Lim.sl a 37, Lim.sl a 38, Lim.sl a 39, Lim.sl a 40, Lim.sl a 41, Lim.sl a 42, Lim.sl a 43, Lim.sl a 44, Lim.sl a 45, Lim.sl a 46, Lim.sl a 47, Lim.sl a 48, Lim.sl a 49, Lim.sl a 50, Lim.sl a 51, Lim.sl a 52, Lim.sl a 53, Lim.sl a 54, Lim.sl a 55, Lim.sl a 56, Lim.sl a 57, Lim.sl a 58, Lim.sl a 59, Lim.sl a 60, Lim.sl a 61, Lim.sl a 62, Lim.sl a 63], defers := a.defers }
set_option maxRecDepth 100000 in
set_option maxHeartbeats 1000000 in
theorem needed_any {b n ac last : Nat} {a : Option Addr} {S : Nat → Nat → Bool} {wo : Int} {w : World} (hn : n ≤ 40) (hl : last < n) (hw : WkN b n ac a S w) :
    Calls Try.prog 54 #[.pointer (some ⟨b, 0, none⟩), .int .i64 last, .int .i64 wo] w fun e w' => ∃ q N, e = .returned (.map (some q)) ∧ w.heap.size ≤ q ∧ MapO w' q 2000 (needF N) ∧ (∀ i, IsNeed n S wo last i (N i)) ∧ Below w.heap.size w w' := by
  have HW := Lib.hid hw
  refine (callsIn_wide (n := 2)).1 (callsIn_of_wp_marks Try.func54 rfl trivial ?_ rfl)
  simp only [Try.ntmps54, List.size_toArray, List.length_cons, List.length_nil, Nat.reduceAdd, Nat.reduceSub, Array.replicate_succ, Array.replicate_zero, List.push_toArray, List.append_toArray, List.nil_append, List.cons_append]
  refine wpIn_wide.2 ?_
  clear hw
  go_wp2_with fail
  rw [run_makeMap]
  have HX : Hid (Below w.heap.size w ((w.alloc (.cells #[.int .i64 last] 3)).alloc (.map #[] 0)) ∧ ((w.alloc (.cells #[.int .i64 last] 3)).alloc (.map #[] 0)).cell? ⟨w.heap.size, 0, none⟩ = some (.int .i64 last) ∧ MapO ((w.alloc (.cells #[.int .i64 last] 3)).alloc (.map #[] 0)) (w.heap.size + 1) 0 (fun _ => none) ∧ w.heap.size + 2 = ((w.alloc (.cells #[.int .i64 last] 3)).alloc (.map #[] 0)).heap.size) := Lib.hid (by
    refine ⟨((Below.refl _ w).alloc (Nat.le_refl _) _).alloc (by simp) _, ?_, ?_, by simp⟩
    · simp [go_sem]
    · have h := MapO.made (w.alloc (.cells #[.int .i64 last] 3))
      simpa using h)
  have hs1 : (w.alloc (.cells #[.int .i64 last] 3)).heap.size = w.heap.size + 1 := by simp
  rw [hs1]
  clear hs1
  generalize (w.alloc (.cells #[.int .i64 last] 3)).alloc (.map #[] 0) = w2 at HX ⊢
  have c0 := HX.out.2.1
  obtain ⟨q4, hq4⟩ : ∃ x, x = w.heap.size := ⟨_, rfl⟩
  obtain ⟨qm, hqm⟩ : ∃ x, x = w.heap.size + 1 := ⟨_, rfl⟩
  rw [← hqm] at HX ⊢
  rw [← hq4] at c0 ⊢
  have HQ := Lib.hid (And.intro hq4 hqm)
  clear hq4 hqm
  obtain ⟨w3, hrun, hmap, hgr⟩ := HX.out.2.2.1.update (c := last) (v := 1) (by unfold maxLen; omega) (WalkArith.wf_i64 ⟨by omega, by omega⟩) (by decide)
  have HG := Lib.hid (And.intro hmap hgr)
  have c4 : w3.cell? ⟨q4, 0, none⟩ = some (.int .i64 last) := (World.cell?_of_block (w := w2) (hgr.block _ (World.block_lt_of_cell? _ _ c0) (fun e => by have h := HQ.out; simp only [Option.some.injEq] at e; omega))).trans c0
  have c4b : (w3.alloc (.cells #[.map (some qm)] 107)).cell? ⟨q4, 0, none⟩ = some (.int .i64 last) := ((Below.refl _ w3).alloc (Nat.le_refl _) _).on c4
  have hw1 : IntKind.i64.wrap ((last : Int) - 1) = (last : Int) - 1 := IntWalk.i64_in _ (by omega)
  clear hmap hgr
  go_wp2_with fail
  have M0 : Hid (NeM w b n ac last qm w3.heap.size (w3.heap.size + 1) a S ((last : Int) - 1) 1 (needF (putN (fun _ => none) last (some 1))) ((w3.alloc (.cells #[.map (some qm)] 107)).alloc (.cells #[.int .i64 ((last : Int) - 1)] 3))) := Lib.hid (by
    obtain ⟨h1, h2, h3, h4⟩ := HX.out
    obtain ⟨hmap, hgr⟩ := HG.out
    have hq := HQ.out
    have hm : MapO w3 qm 1 (needF (putN (fun _ => none) last (some 1))) := by rw [← needF_one]; exact hmap
    have hs3 := hgr.size
    have hb3 : Below w.heap.size w w3 := h1.grown hgr h1.size (fun k e => by cases e; omega)
    have hb4 : Below w3.heap.size w3 ((w3.alloc (.cells #[.map (some qm)] 107)).alloc (.cells #[.int .i64 ((last : Int) - 1)] 3)) := ((Below.refl _ w3).alloc (Nat.le_refl _) _).alloc (by simp) _
    have hwk := (HW.out.below hb3 HW.out.lt).grow hb4
    have c4' : w3.cell? ⟨w.heap.size, 0, none⟩ = some (.int .i64 last) := by rw [← hq.1]; exact c4
    refine ⟨hb3.trans (hb4.mono hb3.size), hwk, HW.out.lt, by omega, hb4.on c4', hm.same (hb4.block _ hm.lt), ?_, ?_, ?_⟩
    · simp [go_sem]
    · simp [go_sem]
    · simp [go_sem])
  generalize (w3.alloc (.cells #[.map (some qm)] 107)).alloc (.cells #[.int .i64 ((last : Int) - 1)] 3) = W0 at M0 ⊢
  obtain ⟨q7, hq7⟩ : ∃ x, x = w3.heap.size := ⟨_, rfl⟩
  obtain ⟨q8, hq8⟩ : ∃ x, x = w3.heap.size + 1 := ⟨_, rfl⟩
  rw [← hq8, ← hq7] at M0 ⊢
  clear hq7 hq8 c4 c4b hw1 HX HG c0 HW
  refine wp_loop_ghost_k (fun m a' W => ∃ (k q8 cnt : Nat) (N : Nat → Option Nat), FrN b last q4 q7 q8 wo a' ∧ Marks (qm + 1) a'.defers W ∧ Hid (NeM w b n ac last qm q7 q8 a S ((k : Int) - 1) cnt (needF N) W ∧ NeI n S wo last k N ∧ m = k ∧ cnt + 41 * k ≤ 2000)) last ⟨last, q8, 1, _, rfl, Marks.nil _ _, Lib.hid ⟨M0.out, NeI.start hl, rfl, by omega⟩⟩ ?_
  clear M0
  rintro m a' W ⟨k, q8, cnt, N, hfr, hm, hI⟩ J K hJ hK
  unfold FrN at hfr
  generalize a'.defers = ds at hfr hm
  generalize Lim.sl a' = x at hfr
  subst hfr
  have c4 := hI.out.1.c4
  rw [← HQ.out.1] at c4
  have c7 := hI.out.1.c7
  have c8 := hI.out.1.c8
  have f8 := hI.out.1.f8
  by_cases hk : 0 < k
  · obtain ⟨i, rfl⟩ : ∃ i, k = i + 1 := ⟨k - 1, by omega⟩
    rw [show ((i + 1 : Nat) : Int) - 1 = (i : Int) by omega] at c8
    have i40 : i < 40 := by have := hI.out.2.1.le; omega
    have hw0 : IntKind.i64.wrap ((i : Int) - 1) = (i : Int) - 1 := IntWalk.i64_in _ (by omega)
    by_cases hwo : (i : Int) = wo
    · have g1 : ((i : Int) == wo) = true := by simpa using hwo
      clear hk
      go_wp2_with fail
      have hM := hI.out.1.next (q9 := W.heap.size) (y := wo - 1) ((Below.refl _ W).alloc (Nat.le_refl _) (.cells #[.int .i64 (wo - 1)] 3)) hI.out.1.lt (by simp [go_sem]) (by simp [go_sem])
      exact .intro i (by have := hI.out.2.2.1; omega) (hJ _ _ _ ⟨i, W.heap.size, cnt, N, rfl, hm.keep (keeps_of_below ((Below.refl _ W).alloc (Nat.le_refl _) _)), Lib.hid ⟨by rw [hwo]; exact hM, hI.out.2.1.lost hwo, rfl, by have := hI.out.2.2.2; omega⟩⟩)
    · have g1 : ((i : Int) == wo) = false := by simpa using hwo
      clear hk
      go_wp2_with (go_at_call 56; refine (ahead_any _ _ _ ⟨_, rfl⟩ ⟨_, rfl⟩).mono ?_; rintro e w' ⟨rfl, rfl⟩)
      have hlt8 := hI.out.1.lt
      have hCn := hI.out.1.wk.ahead (i := i) (by omega)
      have hB3 : Below W.heap.size W ((W.alloc (.cells #[.pointer (some ⟨b, 0, none⟩)] 58)).alloc (.cells #[.int .i64 i] 3)) := ((Below.refl _ W).alloc (Nat.le_refl _) _).alloc (by simp) _
      generalize (W.alloc (.cells #[.pointer (some ⟨b, 0, none⟩)] 58)).alloc (.cells #[.int .i64 i] 3) = W3 at hCn hB3 ⊢
      have HI3 := Lib.hid (And.intro (hI.out.1.grow hB3) (And.intro hI.out.2 (And.intro hB3.size hlt8)))
      have hm3 := MarksLt.of_marks (hm.keep (keeps_of_below hB3))
      have i40' : i < n := by have := hI.out.2.1.le; omega
      clear hB3 hlt8 c4 c7 c8 f8 hm hI
      refine wp_range (xs := aheadL (S i) n i) rfl (enters_of Try.func76 (by kernel_rfl) rfl) (Ca W.heap.size (W.heap.size + 1) b n i (S i) a ac)
        (ahead_iter hn i40' hCn)
        (fun pre W4 => ∃ (cnt' : Nat) (o : Option Nat), Hid (NeedMid n S last i N (pre.map Int.toNat) o ∧ cnt' ≤ cnt + (if o.isSome then 1 else 0)) ∧ Hid (NeM w b n ac last qm q7 q8 a S i cnt' (needF (putN N i o)) W4) ∧ Hid (MarksLt (qm + 1) W3.heap.size ds W4) ∧ Ca W.heap.size (W.heap.size + 1) b n i (S i) a ac W4)
        (fun _ _ _ => False) (fun _ _ h => by obtain ⟨_, _, _, _, _, h⟩ := h; exact h) (fun _ _ h hs => h.steady hs) ?sI (fun _ _ _ _ h _ => h)
        ⟨cnt, none, Lib.hid ⟨NeedMid.begin, by simp⟩, Lib.hid (by rw [putN_none (HI3.out.2.1.1.none i (by omega))]; have h := HI3.out.1; rw [show ((i + 1 : Nat) : Int) - 1 = (i : Int) by omega] at h; exact h), Lib.hid hm3, hCn⟩
        (fun z => { tmps := #[.pointer (some ⟨b, 0, none⟩), .int .i64 last, .int .i64 wo, x 3, .pointer (some ⟨q4, 0, none⟩), x 5, x 6, .pointer (some ⟨q7, 0, none⟩), .pointer (some ⟨q8, 0, none⟩), .int .i64 z, x 10, x 11, x 12, x 13, x 14, x 15, x 16, x 17, x 18, .int .i64 i, .bool true, x 21, x 22, .int .i64 i, .int .i64 wo, .bool false, .pointer (some ⟨b, 0, none⟩), .int .i64 i, .func (.func 76) #[] #[.pointer (some ⟨W.heap.size + 1, 0, none⟩), .pointer (some ⟨W.heap.size, 0, none⟩)], .int .i64 z, x 30, x 31, x 32, x 33, x 34, x 35, x 36, x 37, x 38, x 39, x 40, x 41, x 42, x 43, x 44, x 45, x 46, x 47, x 48, x 49, x 50, x 51, x 52, x 53, x 54, x 55, x 56, x 57, x 58, x 59, x 60, x 61, x 62, x 63], defers := [] }) ?assign ?body ?done ?stop
      case sI =>
        rintro _ _ _ ⟨cnt', o, h1, h2, h3, h4⟩ hs
        exact ⟨cnt', o, h1, Lib.hid (h2.out.steady hs (by have := HI3.out.2.2; omega)), Lib.hid (h3.out.steady hs), h4.steady hs⟩
      case assign =>
        intro l z W K hK
        gi_wp2
        exact hK
      case stop => rintro _ _ _ _ _ _ h; exact h.elim
      case done =>
        rintro D W4 hD ⟨cnt', o, h1, h2, h3, h4⟩ hk
        have c8 := h2.out.c8
        have HO : Hid (IsNeed n S wo last i o) := Lib.hid (h1.out.1.done hl (by have := HI3.out.2.1.1.le; omega) (fun e => by rw [e] at g1; simp at g1) (map_toNat_ahead i40') (fun j hj hjl => HI3.out.2.1.1.known j (by omega) (by omega)))
        have hcnt : cnt' ≤ cnt + 1 := by have := h1.out.2; split at this <;> omega
        have hm4 := h3.out.cons (show qm + 1 ≤ W3.heap.size by have := HI3.out.1.hq; have := HI3.out.2.2; omega) hD hk
        clear h1 h3 h4
        go_wp2_with fail
        have hM := h2.out.next (q9 := W4.heap.size) (y := (i : Int) - 1) ((Below.refl _ W4).alloc (Nat.le_refl _) (.cells #[.int .i64 ((i : Int) - 1)] 3)) h2.out.lt (by simp [go_sem]) (by simp [go_sem])
        exact .intro i (by have := HI3.out.2.1.2.1; omega) (hJ _ _ _ ⟨i, W4.heap.size, cnt', putN N i o, rfl, hm4.keep (keeps_of_below ((Below.refl _ W4).alloc (Nat.le_refl _) _)), Lib.hid ⟨hM, HI3.out.2.1.1.put hl HO.out, rfl, by have := HI3.out.2.1.2.2; omega⟩⟩)
      case body =>
        rintro l pre z W4 hx ⟨cnt', o, h1, h2, h3, h4⟩
        obtain ⟨j, rfl, hij, hjn, hSj⟩ := (mem_aheadL i40').1 hx
        have d4 := h2.out.c4
        rw [← HQ.out.1] at d4
        have d7 := h2.out.c7
        have d8 := h2.out.c8
        have lk1 := h2.out.mp.look (c := j) (WalkArith.wf_i64 ⟨by omega, by omega⟩)
        have lk2 := h2.out.mp.look (c := i) (WalkArith.wf_i64 ⟨by omega, by omega⟩)
        rw [needF_nat, putN, if_neg (by omega)] at lk1
        rw [needF_nat, putN, if_pos rfl] at lk2
        have HJ : Hid (i < j ∧ j < n) := Lib.hid ⟨hij, hjn⟩
        have HPre : Hid ((pre ++ [(j : Int)]).map Int.toNat = pre.map Int.toNat ++ [j]) := Lib.hid (by simp)
        clear hx hSj
        cases hN : N j with
        | none =>
          have HS : Hid (NeedMid n S last i N ((pre ++ [(j : Int)]).map Int.toNat) o) := Lib.hid (by rw [HPre.out]; exact h1.out.1.skip (fun k _ hk => by rw [hN] at hk; cases hk))
          rw [hN] at lk1
          have lk1 : (Instr.lookup 107 (.map (some qm)) (.int .i64 j) true).run Try.prog W4 = .ok (.tuple #[.int .i64 0, .bool false]) W4 := lk1
          clear hN
          cases o with
          | none =>
            have lk2 : (Instr.lookup 107 (.map (some qm)) (.int .i64 i) true).run Try.prog W4 = .ok (.tuple #[.int .i64 0, .bool false]) W4 := lk2
            clear hij hjn
            gi_wp2_with fail
            exact ⟨(KeepsOthers.refl _).from _, cnt', none, Lib.hid ⟨HS.out, h1.out.2⟩, h2, h3, h4⟩
          | some m0 =>
            have lk2 : (Instr.lookup 107 (.map (some qm)) (.int .i64 i) true).run Try.prog W4 = .ok (.tuple #[.int .i64 m0, .bool true]) W4 := lk2
            clear hij hjn
            gi_wp2_with fail
            exact ⟨(KeepsOthers.refl _).from _, cnt', some m0, Lib.hid ⟨HS.out, h1.out.2⟩, h2, h3, h4⟩
        | some k =>
          have hbk := HI3.out.2.1.1.bound hn hl (by omega) hjn hN
          rw [hN] at lk1
          have lk1 : (Instr.lookup 107 (.map (some qm)) (.int .i64 j) true).run Try.prog W4 = .ok (.tuple #[.int .i64 k, .bool true]) W4 := lk1
          have g2 : decide ((j : Int) ≤ last) = true := decide_eq_true (by omega)
          have hwk : IntKind.i64.wrap ((k : Int) + 1) = (k : Int) + 1 := IntWalk.i64_in _ (by omega)
          have TK : Hid ((∀ m, o = some m → k + 1 < m) → NeedMid n S last i N ((pre ++ [(j : Int)]).map Int.toNat) (some (k + 1))) := Lib.hid (fun h => by rw [HPre.out]; exact h1.out.1.take hbk.1 hN h)
          have SK : Hid ((∃ m, o = some m ∧ m ≤ k + 1) → NeedMid n S last i N ((pre ++ [(j : Int)]).map Int.toNat) o) := Lib.hid (fun h => by rw [HPre.out]; exact h1.out.1.skip (fun k' _ hk' => by rw [hN] at hk'; cases hk'; exact h))
          have hcl : cnt' < maxLen := by have h5 := h1.out.2; have h6 := HI3.out.2.1.2.2; split at h5 <;> (unfold maxLen; omega)
          have g2' : j ≤ last := by omega
          obtain ⟨w5, hrun, hmap, hgr⟩ := h2.out.mp.over (c := i) (v := (k : Int) + 1) hcl (WalkArith.wf_i64 ⟨by omega, by omega⟩) (WalkArith.wf_i64 ⟨by omega, by omega⟩)
          have hmap' : MapO w5 qm (cnt' + if o.isSome then 0 else 1) (needF (putN N i (some (k + 1)))) := by
            rw [needF_nat, putN, if_pos rfl] at hmap
            rw [← needF_put N i (k + 1) o]
            simpa using hmap
          have HC : Hid ((cnt' + if o.isSome then 0 else 1) ≤ cnt + 1) := Lib.hid (by have := h1.out.2; cases o <;> simp at this ⊢ <;> omega)
          have hq := HI3.out.1.hq
          have hsz := HI3.out.2.2
          have M5 := Lib.hid (h2.out.note hmap' hgr)
          have L5 := Lib.hid (h3.out.grown hgr (fun r e => by cases e; omega))
          have C5 := Lib.hid (h4.other hgr (by omega) (by omega) (by have := HI3.out.1.hb; omega))
          have K5 : Hid (KeepsFrom W3.heap.size W4 w5) := Lib.hid (KeepsFrom.of_grownBy hgr (fun j e => by cases e; omega))
          clear hmap hmap' hgr hq hsz hN hij hjn hcl hbk
          cases o with
          | none =>
            have lk2 : (Instr.lookup 107 (.map (some qm)) (.int .i64 i) true).run Try.prog W4 = .ok (.tuple #[.int .i64 0, .bool false]) W4 := lk2
            have HT := Lib.hid (TK.out (fun m h => by cases h))
            gi_wp2_with fail
            exact ⟨K5.out, _, some (k + 1), Lib.hid ⟨HT.out, HC.out⟩, M5, L5, C5.out⟩
          | some m0 =>
            have lk2 : (Instr.lookup 107 (.map (some qm)) (.int .i64 i) true).run Try.prog W4 = .ok (.tuple #[.int .i64 m0, .bool true]) W4 := lk2
            by_cases hlt : (k : Int) + 1 < m0
            · have g3 : decide ((k : Int) + 1 < m0) = true := decide_eq_true hlt
              have g3' : k + 1 < m0 := by omega
              have HT := Lib.hid (TK.out (fun m h => by cases h; omega))
              clear hlt
              gi_wp2_with fail
              exact ⟨K5.out, _, some (k + 1), Lib.hid ⟨HT.out, HC.out⟩, M5, L5, C5.out⟩
            · have g3 : decide ((k : Int) + 1 < m0) = false := decide_eq_false hlt
              have g3' : ¬ k + 1 < m0 := by omega
              have HT := Lib.hid (SK.out ⟨m0, rfl, by omega⟩)
              clear hlt
              gi_wp2_with fail
              exact ⟨(KeepsOthers.refl _).from _, cnt', some m0, Lib.hid ⟨HT.out, h1.out.2⟩, h2, h3, h4⟩
  · obtain rfl : k = 0 := by omega
    have g1 : decide (0 ≤ (-1 : Int)) = false := by decide
    rw [show ((0 : Nat) : Int) - 1 = -1 by omega] at c8
    have hmq := hm
    have HE := Lib.hid hI.out
    clear hk hI c4 f8
    go_wp2_with fail
    refine leaves_marks (B := qm + 1) _ hm (fun w' hs => ⟨_, results_one (fn := Try.f54) rfl _ _ rfl, qm, N, rfl, by have := HQ.out; omega, ((HE.out.1.mp.same ?_).more (by have := HE.out.2.2.2; omega)), fun i => (Nat.lt_or_ge i n).elim (fun hi => HE.out.2.1.known i (Nat.zero_le _) hi) (fun hi => by rw [HE.out.2.1.far i hi]; exact IsNeed.beyond (by omega)), HE.out.1.be.steady hs (by have := HQ.out; omega) HE.out.1.be.size⟩)
    have hlt := HE.out.1.mp.lt
    rw [hs.same qm _ (Array.getElem?_eq_getElem hlt) (.inl (by omega)), Array.getElem?_eq_getElem hlt]
end Go.Proofs.Ytohjinbgbfggcaa
/-
  The fewest pillars from a place on: the contract of chain.
-/
namespace Go.Proofs.Ytohjinbgbfggcaa
open Go.RowKit Go.Shelf
open Lim
attribute [local go_sem] Oper.semAt_some

/-- what lies in memory while chain runs -/
structure ChM (w : World) (b n ac last qm q6 q7 q10 cnt : Nat) (a : Option Addr) (S : Nat → Nat → Bool) (F : Int → Option Int) (c : Nat) (v : Value) (P : List Nat) (W : World) : Prop where
  be : Below w.heap.size w W
  wk : WkN b n ac a S W
  hb : b < w.heap.size
  hm : qm < w.heap.size
  mp : MapO W qm cnt F
  hq : q6 = w.heap.size ∧ q7 = w.heap.size + 1 ∧ w.heap.size + 2 < q10
  c6 : W.cell? ⟨q6, 0, none⟩ = some (.int .i64 last)
  c7 : W.cell? ⟨q7, 0, none⟩ = some (.map (some qm))
  c10 : W.cell? ⟨q10, 0, none⟩ = some (.int .i64 c)
  f10 : W.frozen? ⟨q10, 0, none⟩ = false
  ow : W.ownsRow (w.heap.size + 2) 3 1 v P.length (ints (P.map Int.ofNat))
section
variable {w : World} {b n ac last qm q6 q7 q10 cnt : Nat} {a : Option Addr} {S : Nat → Nat → Bool} {F : Int → Option Int} {c : Nat} {v : Value} {P : List Nat} {W W' : World}
theorem ChM.lt (h : ChM w b n ac last qm q6 q7 q10 cnt a S F c v P W) : q10 < W.heap.size := World.block_lt_of_cell? _ _ h.c10
theorem ChM.grow (h : ChM w b n ac last qm q6 q7 q10 cnt a S F c v P W) (hb : Below W.heap.size W W') : ChM w b n ac last qm q6 q7 q10 cnt a S F c v P W' :=
  ⟨h.be.trans (hb.mono h.be.size), h.wk.grow hb, h.hb, h.hm, h.mp.same (hb.block _ h.mp.lt), h.hq, hb.on h.c6, hb.on h.c7, hb.on h.c10, (hb.frozen (p := ⟨q10, 0, none⟩) h.lt).trans h.f10, owns_below h.ow hb⟩
theorem ChM.steady (h : ChM w b n ac last qm q6 q7 q10 cnt a S F c v P W) {B : Nat} (hs : Steady B W W') (hB : w.heap.size ≤ B) : ChM w b n ac last qm q6 q7 q10 cnt a S F c v P W' := by
  have hbe := h.be.size
  have hm := h.hm
  refine ⟨h.be.steady hs (by omega) hbe, h.wk.steady hs, h.hb, h.hm, h.mp.same ?_, h.hq, hs.cell h.c6, hs.cell h.c7, hs.cell h.c10, (hs.frozen h.c10).trans h.f10, hs.owns h.ow⟩
  have hlt := h.mp.lt
  rw [hs.same qm _ (Array.getElem?_eq_getElem hlt) (.inl (by omega)), Array.getElem?_eq_getElem hlt]
/-- the next place is set -/
theorem ChM.step (h : ChM w b n ac last qm q6 q7 q10 cnt a S F c v P W) (ne : v.ownBlock ≠ some q10) (j : Nat) : ChM w b n ac last qm q6 q7 q10 cnt a S F j v P (W.setCell ⟨q10, 0, none⟩ (.int .i64 j)) := by
  have hq := h.hq
  have hbl := h.hb
  have hml := h.hm
  have far : ∀ {q o : Nat} {u : Value}, q ≠ q10 → W.cell? ⟨q, o, none⟩ = some u → (W.setCell ⟨q10, 0, none⟩ (.int .i64 j)).cell? ⟨q, o, none⟩ = some u := fun {q o u} hne hc => by
    rw [setCell_farP _ _ (fun e => hne e.symm)]; exact hc
  have hb : Below w.heap.size W (W.setCell ⟨q10, 0, none⟩ (.int .i64 j)) := (Below.refl w.heap.size W).setCell (p := ⟨q10, 0, none⟩) (by show w.heap.size ≤ q10; omega) _
  refine ⟨h.be.trans hb, ⟨far (by omega) h.wk.c0, fun i j hi hj => far (by omega) (h.wk.s i j hi hj)⟩, h.hb, h.hm, h.mp.same (hb.block _ (by omega)), h.hq, far (by omega) h.c6, far (by omega) h.c7, World.cell?_setCell_same' _ _ _ (by rw [h.c10]; rfl), ?_, ownsRow_setCell_other h.ow ne _⟩
  rw [World.frozen?_setCell]; exact h.f10
/-- a place is appended -/
theorem ChM.add {W1 : World} {v' : Value} (h : ChM w b n ac last qm q6 q7 q10 cnt a S F c v P W) (ne : v.ownBlock ≠ some q10) (x : Value) (ho : W'.ownsRow (w.heap.size + 2) 3 1 v' (P.length + 1) (ints (P.map Int.ofNat) ++ [.int .i64 c])) (hW : W1 = W.alloc (.cells #[x] 3)) (hg : W1.grownBy W' v.ownBlock) :
    ChM w b n ac last qm q6 q7 q10 cnt a S F c v' (P ++ [c]) W' := by
  have hq := h.hq
  have hbl := h.hb
  have hml := h.hm
  have hlt := h.lt
  have hsz := h.be.size
  have g := h.grow (W' := W1) (by rw [hW]; exact (Below.refl _ W).alloc (Nat.le_refl _) _)
  have hs1 : W1.heap.size = W.heap.size + 1 := by rw [hW]; simp
  have hlow : ∀ k, v.ownBlock = some k → w.heap.size + 2 ≤ k := fun k e => (g.ow.lt k e).1
  have hcell : ∀ {q o : Nat} {u : Value}, some q ≠ v.ownBlock → W1.cell? ⟨q, o, none⟩ = some u → W'.cell? ⟨q, o, none⟩ = some u := fun {q o u} hne hc => by
    have hl := World.block_lt_of_cell? _ _ hc
    exact (World.cell?_of_block (w := W1) (hg.block _ hl hne)).trans hc
  have low : ∀ q, q < w.heap.size + 2 → some q ≠ v.ownBlock := fun q hq e => by have := hlow q e.symm; omega
  refine ⟨g.be.grown hg (by omega) (fun k e => by have := hlow k e; omega), ⟨hcell (low b (by omega)) g.wk.c0, fun i j hi hj => hcell (low b (by omega)) (g.wk.s i j hi hj)⟩, h.hb, h.hm, g.mp.kept hg (low qm (by omega)), h.hq, hcell (low q6 (by omega)) g.c6, hcell (low q7 (by omega)) g.c7, hcell (fun e => ne e.symm) g.c10, ?_, by simpa [ints] using ho⟩
  · exact (World.frozen?_of_block (w := W1) (hg.block q10 g.lt (fun e => ne e.symm))).trans g.f10
/-- the next round's box -/
theorem ChM.next (h : ChM w b n ac last qm q6 q7 q10 cnt a S F c v P W) : ChM w b n ac last qm q6 q7 W.heap.size cnt a S F c v P (W.alloc (.cells #[.int .i64 c] 3)) ∧ v.ownBlock ≠ some W.heap.size := by
  have g := h.grow ((Below.refl _ W).alloc (Nat.le_refl _) (.cells #[.int .i64 c] 3))
  have hq := h.hq
  have hlt := h.lt
  refine ⟨⟨g.be, g.wk, g.hb, g.hm, g.mp, ⟨hq.1, hq.2.1, by omega⟩, g.c6, g.c7, by simp [go_sem], by simp [go_sem], g.ow⟩, fun e => ?_⟩
  have := (h.ow.lt _ e).2
  omega
end
/-- the frame of chain while its loop runs -/
def FrC (b fm last qm q6 q7 q10 : Nat) (v : Value) (a : Act) : Prop :=
  a = { tmps := #[.pointer (some ⟨b, 0, none⟩), .int .i64 fm, .int .i64 last, .map (some qm), Lim.sl a 4, Lim.sl a 5, .pointer (some ⟨q6, 0, none⟩), .pointer (some ⟨q7, 0, none⟩), Lim.sl a 8, v, .pointer (some ⟨q10, 0, none⟩), Lim.sl a 11, Lim.sl a 12, Lim.sl a 13, Lim.sl a 14, Lim.sl a 15, Lim.sl a 16, Lim.sl a 17, Lim.sl a 18, Lim.sl a 19, Lim.sl a 20, Lim.sl a 21, Lim.sl a 22, Lim.sl a 23, Lim.sl a 24, Lim.sl a 25, Lim.sl a 26, Lim.sl a 27, Lim.sl a 28, Lim.sl a 29, Lim.sl a 30, Lim.sl a 31, Lim.sl a 32, Lim.sl a 33, Lim.sl a 34, Lim.sl a 35, Lim.sl a 36, Lim.sl a 37, Lim.sl a 38, Lim.sl a 39, Lim.sl a 40, Lim.sl a 41, Lim.sl a 42, Lim.sl a 43, Lim.sl a 44, Lim.sl a 45, Lim.sl a 46, Lim.sl a 47, Lim.sl a 48, Lim.sl a 49, Lim.sl a 50], defers := a.defers }
/-- places that are appended keep the way on to the best chain -/
structure ChI (n : Nat) (S : Nat → Nat → Bool) (wo : Int) (last fm : Nat) (N : Nat → Option Nat) (c m : Nat) (P : List Nat) : Prop where
  le : c ≤ last
  at_ : N c = some m
  on : ∃ Q, P = Q ++ [c] ∧ ∀ L, IsBest n S wo last c L → IsBest n S wo last fm (Q ++ L)
  len : P.length + m ≤ 45
theorem ChI.step {n : Nat} {S : Nat → Nat → Bool} {wo : Int} {last fm : Nat} {N : Nat → Option Nat} {c m j : Nat} {P : List Nat} (hN : ∀ i, IsNeed n S wo last i (N i)) (h : ChI n S wo last fm N c (m + 1) P) (hcj : c < j) (hj : j < n) (hl : j ≤ last) (hS : S c j = true) (hw : (c : Int) ≠ wo) (hm : N j = some m)
    (hf : ∀ k, c < k → k < j → S c k = true → N k ≠ some m) : ChI n S wo last fm N j m (P ++ [j]) := by
  obtain ⟨Q, h1, h2⟩ := h.on
  refine ⟨hl, hm, ⟨P, rfl, fun L hL => ?_⟩, by have := h.len; simp; omega⟩
  have := h2 _ (IsBest.step hN h.at_ hcj hj hS hw hm hf hL)
  rw [h1]
  simpa using this
/-- where there is a next place -/
theorem need_next {n : Nat} {S : Nat → Nat → Bool} {wo : Int} {last : Nat} {N : Nat → Option Nat} {c m : Nat} (hN : ∀ i, IsNeed n S wo last i (N i)) (hc : c ≠ last) (hm : N c = some m) :
    ∃ m', m = m' + 1 ∧ (c : Int) ≠ wo ∧ ∃ j, c < j ∧ j < n ∧ j ≤ last ∧ S c j = true ∧ N j = some m' := by
  obtain ⟨L, h1, h2⟩ := (hN c).hit m hm
  cases h1 with
  | one => exact absurd rfl hc
  | @cons _ j L' h3 h4 h5 h6 h7 =>
    simp only [List.length_cons] at h2
    obtain ⟨k, h8, h9⟩ := (hN j).least L' h7
    obtain ⟨L2, h10, h11⟩ := (hN j).hit k h8
    obtain ⟨m2, h12, h13⟩ := (hN c).least (c :: L2) (.cons h3 h4 h5 h6 h10)
    rw [hm] at h12
    cases h12
    simp only [List.length_cons] at h13
    exact ⟨L'.length, h2.symm, h6, j, h3, h4, h7.le, h5, by rw [h8]; congr 1; omega⟩
set_option maxRecDepth 100000 in
set_option maxHeartbeats 1000000 in
theorem chain_any {b n ac last fm qm cnt m0 : Nat} {a : Option Addr} {S : Nat → Nat → Bool} {wo : Int} {N : Nat → Option Nat} {w : World} (hn : n ≤ 40) (hl : last < n) (hw : WkN b n ac a S w) (hN : ∀ i, IsNeed n S wo last i (N i)) (hM : MapO w qm cnt (needF N)) (hfm : N fm = some m0) :
    Calls Try.prog 53 #[.pointer (some ⟨b, 0, none⟩), .int .i64 fm, .int .i64 last, .map (some qm)] w fun e w' => ∃ v L, e = .returned v ∧ w'.ownsRow w.heap.size 3 1 v L.length (ints (L.map Int.ofNat)) ∧ IsBest n S wo last fm L ∧ L.length ≤ 45 ∧ Below w.heap.size w w' := by
  have HW := Lib.hid (And.intro hw hM)
  have HN := Lib.hid (And.intro hN hfm)
  refine (callsIn_wide (n := 2)).1 (callsIn_of_wp_marks Try.func53 rfl trivial ?_ rfl)
  simp only [Try.ntmps53, List.size_toArray, List.length_cons, List.length_nil, Nat.reduceAdd, Nat.reduceSub, Array.replicate_succ, Array.replicate_zero, List.push_toArray, List.append_toArray, List.nil_append, List.cons_append]
  refine wpIn_wide.2 ?_
  clear hw hM hN hfm
  go_wp2_with fail
  have M0 : Hid (ChM w b n ac last qm w.heap.size (w.heap.size + 1) (w.heap.size + 1 + 1 + 1) cnt a S (needF N) fm (.slice (some ⟨w.heap.size + 1 + 1, 0, none⟩) 1 1) [fm] ((((w.alloc (.cells #[.int .i64 last] 3)).alloc (.cells #[.map (some qm)] 107)).alloc (.cells #[.int .i64 fm] 3)).alloc (.cells #[.int .i64 fm] 3))) := Lib.hid (by
    have hb : Below w.heap.size w ((((w.alloc (.cells #[.int .i64 last] 3)).alloc (.cells #[.map (some qm)] 107)).alloc (.cells #[.int .i64 fm] 3)).alloc (.cells #[.int .i64 fm] 3)) := ((((Below.refl _ w).alloc (Nat.le_refl _) _).alloc (by simp) _).alloc (by simp; omega) _).alloc (by simp; omega) _
    refine ⟨hb, HW.out.1.grow hb, HW.out.1.lt, HW.out.2.lt, HW.out.2.same (hb.block _ HW.out.2.lt), ⟨rfl, rfl, by omega⟩, ?_, ?_, ?_, ?_, ⟨rfl, .inr ⟨w.heap.size + 1 + 1, 1, #[.int .i64 fm], rfl, by omega, ?_, Nat.le_refl _, by decide, rfl, rfl⟩⟩⟩
    · simp [go_sem]
    · simp [go_sem]
    · simp [go_sem]
    · simp [go_sem]
    · have h3 := heap_alloc_newP ((w.alloc (.cells #[.int .i64 last] 3)).alloc (.cells #[.map (some qm)] 107)) (.cells #[.int .i64 fm] 3)
      have e3 : ((w.alloc (.cells #[.int .i64 last] 3)).alloc (.cells #[.map (some qm)] 107)).heap.size = w.heap.size + 1 + 1 := by simp
      rw [e3] at h3
      exact (((Below.refl _ _).alloc (Nat.le_refl _) _).block _ (by simp)).trans h3)
  generalize (((w.alloc (.cells #[.int .i64 last] 3)).alloc (.cells #[.map (some qm)] 107)).alloc (.cells #[.int .i64 fm] 3)).alloc (.cells #[.int .i64 fm] 3) = W0 at M0 ⊢
  have I0 : Hid (fm ≤ last ∧ ChI n S wo last fm N fm m0 [fm]) := Lib.hid (by
    obtain ⟨L, h1, h2⟩ := (HN.out.1 fm).hit m0 HN.out.2
    have h3 := h1.le
    have h4 := h1.len
    exact ⟨h3, h3, HN.out.2, ⟨[], rfl, fun L hL => hL⟩, by simp; omega⟩)
  obtain ⟨q6, hq6⟩ : ∃ x, x = w.heap.size := ⟨_, rfl⟩
  obtain ⟨q7, hq7⟩ : ∃ x, x = w.heap.size + 1 := ⟨_, rfl⟩
  obtain ⟨q10, hq10⟩ : ∃ x, x = w.heap.size + 1 + 1 + 1 := ⟨_, rfl⟩
  obtain ⟨v0, hv0⟩ : ∃ x, x = Value.slice (some ⟨w.heap.size + 1 + 1, 0, none⟩) 1 1 := ⟨_, rfl⟩
  have NE0 : Hid (v0.ownBlock ≠ some q10) := Lib.hid (by rw [hv0, hq10]; simp [Value.ownBlock])
  rw [← hv0] at M0 ⊢
  rw [← hq10, ← hq7] at M0 ⊢
  have HQ6 := Lib.hid hq6
  have M0' : Hid (ChM w b n ac last qm q6 q7 q10 cnt a S (needF N) fm v0 [fm] W0) := Lib.hid (by rw [HQ6.out]; exact M0.out)
  rw [← hq6]
  clear hv0 hq10 hq7 hq6 M0 HW
  refine wp_loop_ghost_k (fun m a' W => ∃ (q10 c : Nat) (v : Value) (P : List Nat), FrC b fm last qm q6 q7 q10 v a' ∧ Marks (w.heap.size + 3) a'.defers W ∧ Hid (ChM w b n ac last qm q6 q7 q10 cnt a S (needF N) c v P W ∧ ChI n S wo last fm N c m P ∧ v.ownBlock ≠ some q10)) m0 ⟨q10, fm, v0, [fm], rfl, Marks.nil _ _, Lib.hid ⟨M0'.out, I0.out.2, NE0.out⟩⟩ ?_
  clear M0' I0
  rintro m a' W ⟨q10, c, v, P, hfr, hm, hI⟩ J K hJ hK
  unfold FrC at hfr
  generalize a'.defers = ds at hfr hm
  generalize Lim.sl a' = x at hfr
  subst hfr
  have c6 := hI.out.1.c6
  have c7 := hI.out.1.c7
  have c10 := hI.out.1.c10
  by_cases hc : c = last
  · have g1 : ((c : Int) == (last : Int)) = true := by simp [hc]
    have g2 : ((c : Int) != (last : Int)) = false := by simp [hc]
    have HC := Lib.hid hc
    clear hc
    go_wp2_with fail
    refine leaves_marks (B := w.heap.size + 3) _ hm (fun w' hs => ⟨_, results_one (fn := Try.f53) rfl _ _ rfl, v, P, rfl, owns_mono (hs.owns hI.out.1.ow) (by omega), ?_, by have := hI.out.2.1.len; omega, hI.out.1.be.steady hs (by omega) hI.out.1.be.size⟩)
    obtain ⟨Q, h1, h2⟩ := hI.out.2.1.on
    rw [h1]
    refine h2 [c] ?_
    rw [HC.out]
    exact IsBest.here
  · have g1 : ((c : Int) == (last : Int)) = false := by rw [beq_eq_false_iff_ne]; omega
    have g2 : ((c : Int) != (last : Int)) = true := by rw [bne_iff_ne]; omega
    obtain ⟨m', rfl, hcw, HX⟩ := need_next HN.out.1 hc hI.out.2.1.at_
    have HX := Lib.hid HX
    have HCW := Lib.hid hcw
    have c40 : c < n := by have := hI.out.2.1.le; omega
    clear hc hcw
    go_wp2_with (go_at_call 56; refine (ahead_any _ _ _ ⟨_, rfl⟩ ⟨_, rfl⟩).mono ?_; rintro e w' ⟨rfl, rfl⟩)
    have hCn := hI.out.1.wk.ahead (i := c) (by omega)
    have hB3 : Below W.heap.size W ((W.alloc (.cells #[.pointer (some ⟨b, 0, none⟩)] 58)).alloc (.cells #[.int .i64 c] 3)) := ((Below.refl _ W).alloc (Nat.le_refl _) _).alloc (by simp) _
    generalize (W.alloc (.cells #[.pointer (some ⟨b, 0, none⟩)] 58)).alloc (.cells #[.int .i64 c] 3) = W3 at hCn hB3 ⊢
    have HI3 := Lib.hid (And.intro (hI.out.1.grow hB3) (And.intro hI.out.2 (And.intro hB3.size hI.out.1.lt)))
    have hm3 := MarksLt.of_marks (hm.keep (keeps_of_below hB3))
    clear hB3 c6 c7 c10 hm hI
    refine wp_range (xs := aheadL (S c) n c) rfl (enters_of Try.func76 (by kernel_rfl) rfl) (Ca W.heap.size (W.heap.size + 1) b n c (S c) a ac)
      (ahead_iter hn c40 hCn)
      (fun pre W4 => Hid (∀ k : Nat, (k : Int) ∈ pre → k ≤ last → N k ≠ some m') ∧ Hid (ChM w b n ac last qm q6 q7 q10 cnt a S (needF N) c v P W4) ∧ Hid (MarksLt (w.heap.size + 3) W3.heap.size ds W4) ∧ Ca W.heap.size (W.heap.size + 1) b n c (S c) a ac W4)
      (fun cd pre W4 => cd = .exit 2 ∧ ∃ (j : Nat) (pre' : List Int), pre = pre' ++ [(j : Int)] ∧ Hid (j ≤ last ∧ N j = some m' ∧ ∀ k : Nat, (k : Int) ∈ pre' → k ≤ last → N k ≠ some m') ∧ Hid (ChM w b n ac last qm q6 q7 q10 cnt a S (needF N) j v P W4) ∧ Hid (MarksLt (w.heap.size + 3) W3.heap.size ds W4))
      (fun _ _ h => h.2.2.2) (fun _ _ h hs => h.steady hs) ?sI ?sX
      ⟨Lib.hid (fun k h => (by cases h)), Lib.hid HI3.out.1, Lib.hid hm3, hCn⟩
      (fun z => { tmps := #[.pointer (some ⟨b, 0, none⟩), .int .i64 fm, .int .i64 last, .map (some qm), x 4, x 5, .pointer (some ⟨q6, 0, none⟩), .pointer (some ⟨q7, 0, none⟩), x 8, v, .pointer (some ⟨q10, 0, none⟩), .int .i64 z, x 12, x 13, x 14, x 15, x 16, .int .i64 c, .int .i64 last, .bool true, .pointer (some ⟨b, 0, none⟩), .int .i64 c, .func (.func 76) #[] #[.pointer (some ⟨W.heap.size + 1, 0, none⟩), .pointer (some ⟨W.heap.size, 0, none⟩)], .int .i64 z, x 24, x 25, x 26, x 27, x 28, x 29, x 30, x 31, x 32, x 33, x 34, x 35, x 36, x 37, x 38, x 39, x 40, x 41, x 42, x 43, x 44, x 45, x 46, x 47, x 48, x 49, x 50], defers := [] }) ?assign ?body ?done ?stop
    case sI =>
      rintro _ _ _ ⟨h1, h2, h3, h4⟩ hs
      exact ⟨h1, Lib.hid (h2.out.steady hs HI3.out.1.be.size), Lib.hid (h3.out.steady hs), h4.steady hs⟩
    case sX =>
      rintro _ _ _ _ ⟨h0, j, pre', h1, h2, h3, h4⟩ hs
      exact ⟨h0, j, pre', h1, h2, Lib.hid (h3.out.steady hs HI3.out.1.be.size), Lib.hid (h4.out.steady hs)⟩
    case assign =>
      intro l z W K hK
      gi_wp2
      exact hK
    case done =>
      rintro D W4 hD ⟨h1, h2, h3, h4⟩ hk
      obtain ⟨j, h5, h6, h7, h8, h9⟩ := HX.out
      exact absurd h9 (h1.out j ((mem_aheadL c40).2 ⟨j, rfl, h5, h6, h8⟩) h7)
    case stop =>
      rintro D cd pre W4 hD hpre ⟨rfl, j, pre', rfl, h1, h2, h3⟩ hk
      have hx := hpre.subset (show (j : Int) ∈ pre' ++ [(j : Int)] by simp)
      obtain ⟨j', hj', hcj, hjn, hSj⟩ := (mem_aheadL c40).1 hx
      obtain rfl : j = j' := by omega
      have HT := Lib.hid (HI3.out.2.1.1.step HN.out.1 hcj hjn h1.out.1 hSj HCW.out h1.out.2.1 (fun k h5 h6 h7 => h1.out.2.2 k (aheadL_before c40 hpre h5 h6 h7) (by have := h1.out.1; omega)))
      have hm4 := h3.out.cons (show w.heap.size + 3 ≤ W3.heap.size by have := HI3.out.1.hq; have := HI3.out.2.2; omega) hD hk
      have d10 := h2.out.c10
      obtain ⟨i0, hi, hz0, hz1, hz2⟩ := info_parts Try.infoInt
      have HF := Lib.hid (And.intro hi (And.intro hz0 (And.intro hz1 hz2)))
      have HL : Hid (P.length ≤ 45) := Lib.hid (by have := HI3.out.2.1.1.len; omega)
      clear hi hz0 hz1 hz2
      clear hx hcj hjn hSj h3 hpre h1
      go_wp2_with (at_builtin; refine wpList_append_own _ rfl _ _ 25 rfl (w.heap.size + 2) 3 i0 (.int .i64 0) 1 8 Try.underlying25 HF.out.1 HF.out.2.1 HF.out.2.2.1 HF.out.2.2.2 rfl (by decide) _ _ _ rfl (h2.out.ow.alloc _) ⟨W4.heap.size, 0, none⟩ 1 1 [.int .i64 j] rfl rfl (cell_one_new _ _ _) (by simp [Value.oneCell']) (by have := HL.out; unfold maxLen; omega) (by have := HL.out; omega) (by have := h2.out.hq; have := h2.out.lt; simp; omega) ?_; intro v' w5 hown5 hgr5 _; have M5 := h2.out.add HI3.out.2.1.2 (.int .i64 j) hown5 rfl hgr5; have d5 := M5.c10; have HM5 := Lib.hid M5; have HK5 := Lib.hid ((keeps_of_below ((Below.refl _ W4).alloc (Nat.le_refl _) (.cells #[.int .i64 j] 3))).trans (keeps_of_row (h2.out.ow.alloc _) hgr5)); clear hown5 hgr5 M5 d10)
      have hNX := HM5.out.next
      exact .intro m' (by omega) (hJ _ _ _ ⟨w5.heap.size, j, v', P ++ [j], rfl, (hm4.keep HK5.out).keep (keeps_of_below ((Below.refl _ w5).alloc (Nat.le_refl _) _)), Lib.hid ⟨hNX.1, HT.out, hNX.2⟩⟩)
    case body =>
      rintro l pre z W4 hx ⟨h1, h2, h3, h4⟩
      obtain ⟨j, rfl, hcj, hjn, hSj⟩ := (mem_aheadL c40).1 hx
      have d6 := h2.out.c6
      have d7 := h2.out.c7
      have d10 := h2.out.c10
      have lk1 := h2.out.mp.look (c := j) (WalkArith.wf_i64 ⟨by omega, by omega⟩)
      have lk2 := h2.out.mp.lookup (c := c) (WalkArith.wf_i64 ⟨by omega, by omega⟩)
      rw [needF_nat] at lk1
      rw [needF_nat, HI3.out.2.1.1.at_] at lk2
      have lk2 : (Instr.lookup 107 (.map (some qm)) (.int .i64 c) false).run Try.prog W4 = .ok (.int .i64 ((m' + 1 : Nat) : Int)) W4 := lk2
      have hmb : m' + 1 ≤ 45 := by have := HI3.out.2.1.1.len; omega
      have hwk : IntKind.i64.wrap (((m' + 1 : Nat) : Int) - 1) = (m' : Int) := by rw [IntWalk.i64_in _ (by omega)]; omega
      clear hx hSj
      cases hN : N j with
      | none =>
        rw [hN] at lk1
        have lk1 : (Instr.lookup 107 (.map (some qm)) (.int .i64 j) true).run Try.prog W4 = .ok (.tuple #[.int .i64 0, .bool false]) W4 := lk1
        have HS : Hid (∀ k : Nat, (k : Int) ∈ pre ++ [(j : Int)] → k ≤ last → N k ≠ some m') := Lib.hid (fun k hk hl => by
          rcases List.mem_append.1 hk with hk | hk
          · exact h1.out k hk hl
          · obtain rfl : k = j := by have : (k : Int) = j := by simpa using hk
                                     omega
            rw [hN]; simp)
        clear hN hcj hjn
        gi_wp2_with fail
        exact ⟨(KeepsOthers.refl _).from _, HS, h2, h3, h4⟩
      | some k0 =>
        rw [hN] at lk1
        have lk1 : (Instr.lookup 107 (.map (some qm)) (.int .i64 j) true).run Try.prog W4 = .ok (.tuple #[.int .i64 k0, .bool true]) W4 := lk1
        have hjl : j ≤ last := by
          obtain ⟨L, h5, -⟩ := (HN.out.1 j).hit k0 hN
          exact h5.le
        have g3 : decide ((j : Int) ≤ last) = true := decide_eq_true (by omega)
        by_cases hk : k0 = m'
        · have g4 : ((k0 : Int) == (m' : Int)) = true := by simp [hk]
          have HT : Hid (j ≤ last ∧ N j = some m' ∧ ∀ k : Nat, (k : Int) ∈ pre → k ≤ last → N k ≠ some m') := Lib.hid ⟨hjl, by rw [hN, hk], h1.out⟩
          have H4 := Lib.hid (h2.out.step HI3.out.2.1.2 j)
          have f10 := h2.out.f10
          have K5 : Hid (KeepsOthers W4 (W4.setCell ⟨q10, 0, none⟩ (.int .i64 j))) := Lib.hid (KeepsOthers.setCell _ _ _)
          have L5 := Lib.hid (h3.out.keeps K5.out)
          clear hN hcj hjn hk
          gi_wp2_with fail
          exact ⟨K5.out.from _, rfl, j, pre, rfl, HT, H4, L5⟩
        · have g4 : ((k0 : Int) == (m' : Int)) = false := by rw [beq_eq_false_iff_ne]; omega
          have HS : Hid (∀ k : Nat, (k : Int) ∈ pre ++ [(j : Int)] → k ≤ last → N k ≠ some m') := Lib.hid (fun k hk' hl => by
            rcases List.mem_append.1 hk' with hk' | hk'
            · exact h1.out k hk' hl
            · obtain rfl : k = j := by have : (k : Int) = j := by simpa using hk'
                                       omega
              rw [hN]; intro e; cases e; exact hk rfl)
          clear hN hcj hjn
          gi_wp2_with fail
          exact ⟨(KeepsOthers.refl _).from _, HS, h2, h3, h4⟩
end Go.Proofs.Ytohjinbgbfggcaa
/-
  The fewest pillars that hold: the contract of Fewest.
-/
namespace Go.Proofs.Ytohjinbgbfggcaa
open Go.RowKit Go.Shelf
open Lim

theorem Ch.congr {n : Nat} {S S' : Nat → Nat → Bool} (hS : ∀ i j, i < j → j < n → S i j = S' i j) {w : Int} {t i : Nat} {L : List Nat} (h : Ch n S w t i L) : Ch n S' w t i L := by
  induction h with
  | one => exact .one
  | cons h1 h2 h3 h4 _ ih => exact .cons h1 h2 (by rw [← hS _ _ h1 h2]; exact h3) h4 ih
theorem IsBest.congr {n : Nat} {S S' : Nat → Nat → Bool} (hS : ∀ i j, i < j → j < n → S i j = S' i j) {w : Int} {t i : Nat} {L : List Nat} (h : IsBest n S w t i L) : IsBest n S' w t i L :=
  ⟨h.ch.congr hS, fun L' h' => h.le L' (h'.congr (fun i j h1 h2 => (hS i j h1 h2).symm))⟩
theorem sure_next (p : Pf) (i : Nat) : p.sure i (i + 1) = true := by
  unfold Pf.sure Pf.sees
  rw [Nat.min_eq_left (Nat.le_succ i), Nat.max_eq_right (Nat.le_succ i)]
  exact open_iff.2 (fun k h1 h2 => by omega)
theorem chain_all {n : Nat} {S : Nat → Nat → Bool} (hS : ∀ i, i + 1 < n → S i (i + 1) = true) {t : Nat} (ht : t < n) : ∀ d i, i + d = t → ∃ L, Ch n S (-1) t i L
  | 0, i, h => by
    obtain rfl : i = t := by omega
    exact ⟨_, .one⟩
  | d + 1, i, h => by
    obtain ⟨L, hL⟩ := chain_all hS ht d (i + 1) (by omega)
    exact ⟨_, .cons (Nat.lt_succ_self i) (by omega) (hS i (by omega)) (by omega) hL⟩
theorem suTo_sure (p : Pf) {i j : Nat} (hij : i < j) (hj : j < p.n) : suTo p p.n 0 i j = p.sure i j := by
  unfold suTo
  rw [decide_eq_true (show i ≠ j by omega), decide_eq_true (show max i j < p.n ∨ max i j = p.n ∧ min i j < 0 by omega)]; rfl
/-- what Fewest answers -/
def FewAns (w : World) (p : Pf) (e : Ending) (w' : World) : Prop :=
  Below w.heap.size w w' ∧ ((p.err ≠ 0 ∧ e = .returned (.tuple #[.slice none 0 0, .int .i64 p.err])) ∨
    (p.err = 0 ∧ ∃ v L, e = .returned (.tuple #[v, .int .i64 0]) ∧ w'.ownsRow w.heap.size 3 1 v L.length (ints (L.map Int.ofNat)) ∧ IsBest p.n p.sure (-1) (p.n - 1) 0 L ∧ L.length ≤ 45))
set_option maxRecDepth 20000 in
set_option maxHeartbeats 2000000 in
theorem Fewest_any {B : Nat} {p : Pf} {av gv : Value} {w : World} (hB : B ≤ w.heap.size) (ha : RS B w av p.ats.length (ints p.ats)) (hg : RS B w gv p.gr.length (spans p.gr)) :
    Calls Try.prog 28 #[.agg #[av, gv, .int .i64 p.tall, .int .i64 p.lo, .int .i64 p.hi]] w (FewAns w p) := by
  have HR := Lib.hid (And.intro hB (And.intro ha hg))
  obtain ⟨tl, htl⟩ : ∃ x, x = p.tall := ⟨_, rfl⟩
  obtain ⟨lo, hlo⟩ : ∃ x, x = p.lo := ⟨_, rfl⟩
  obtain ⟨hi, hhi⟩ : ∃ x, x = p.hi := ⟨_, rfl⟩
  have HOP : Hid (∀ W, Below w.heap.size w W → Calls Try.prog 18 #[.agg #[av, gv, .int .i64 tl, .int .i64 lo, .int .i64 hi]] W (OpAns W p av gv)) := Lib.hid fun W hW => by
    rw [htl, hlo, hhi]
    exact opened_any (Nat.le_trans hB hW.size) (ha.below (hW.mono hB)) (hg.below (hW.mono hB))
  rw [← htl, ← hlo, ← hhi]
  have HT := Lib.hid (And.intro htl (And.intro hlo hhi))
  have HM : Hid (Below w.heap.size w (w.alloc (.cells #[av, gv, .int .i64 tl, .int .i64 lo, .int .i64 hi] 30)) ∧ (w.alloc (.cells #[av, gv, .int .i64 tl, .int .i64 lo, .int .i64 hi] 30)).heap[w.heap.size]? = some (.cells #[av, gv, .int .i64 tl, .int .i64 lo, .int .i64 hi] 30 (0, 0))) := Lib.hid ⟨(Below.refl _ w).alloc (Nat.le_refl _) _, heap_alloc_newP w _⟩
  clear hB htl hlo hhi ha hg
  go_enter Try.func28, Try.ntmps28
  go_upto_region 1 with (fail)
  obtain ⟨q, hq⟩ : ∃ q, q = w.heap.size := ⟨_, rfl⟩
  have HQ := Lib.hid hq.symm
  rw [← hq] at HM
  simp only [← hq]
  clear hq
  generalize w.alloc (.cells #[av, gv, .int .i64 tl, .int .i64 lo, .int .i64 hi] 30) = w1 at HM ⊢
  obtain ⟨⟨k0, k1, k2, k3, k4⟩, -⟩ := five_cells HM.out.2
  have HW1 : Hid (Below w.heap.size w w1) := Lib.hid (by rw [HQ.out]; exact HM.out.1)
  go_wp2_with fail
  refine (HOP.out _ HW1.out).mono ?_
  rintro e w2 ⟨hb2, hans⟩
  have hk0 := hb2.on k0
  clear k0 k1 k2 k3 k4
  have HB2 : Hid (Below w.heap.size w w2) := Lib.hid (HW1.out.trans (hb2.mono HW1.out.size))
  clear hb2
  rcases hans with ⟨hne, rfl⟩ | ⟨he, b, rfl, hge, hc, hk⟩
  · obtain ⟨er, her⟩ : ∃ x, x = p.err := ⟨_, rfl⟩
    have HER := Lib.hid (And.intro her hne)
    rw [← her] at hne ⊢
    clear her
    have d1 : (er != 0) = true := by simp [hne]
    clear hne
    go_wp2
    go_ret2
    exact ⟨HB2.out, .inl ⟨HER.out.2, by rw [← HER.out.1]; rfl⟩⟩
  · have HP : Hid p.Ok := Lib.hid (err_ok he)
    have HE0 := Lib.hid (And.intro he hge)
    obtain ⟨ab, ao, ac, gb, go, gc, rfl, rfl, hl⟩ := pf_lists HP.out HR.out.2.1 HR.out.2.2
    obtain ⟨n, hn⟩ : ∃ x, x = p.n := ⟨_, rfl⟩
    have HW : Hid (WkN b n ac (some ⟨ab, ao, none⟩) (suTo p p.n 0) w2) := Lib.hid ⟨by rw [hn]; exact hc.c0, fun i j hi hj => hk.s i j hi hj⟩
    rw [← hn] at hk0 ⊢
    have HN : Hid (n = p.n) := Lib.hid hn
    have n40 : n ≤ 40 := by rw [hn]; exact HP.out.n40
    have n2 : 2 ≤ n := by rw [hn]; exact HP.out.n2
    obtain ⟨last, hlast⟩ : ∃ x : Nat, x = n - 1 := ⟨_, rfl⟩
    have hlw : IntKind.i64.wrap ((n : Int) - 1) = (last : Int) := by rw [IntWalk.i64_in _ (by omega)]; omega
    have hln : last < n := by omega
    have HLT := Lib.hid hlast
    clear hn hc hk hl he hge hlast
    go_wp2_with fail
    refine (needed_any (wo := -1) n40 hln HW.out).mono ?_
    rintro e w3 ⟨qm, N, rfl, hqm, hM, hN, hb3⟩
    obtain ⟨L0, hL0⟩ := chain_all (S := suTo p p.n 0) (n := n) (fun i hi => by rw [suTo_sure p (Nat.lt_succ_self i) (by rw [← HN.out]; exact hi)]; exact sure_next p i) hln last 0 (by omega)
    obtain ⟨m0, hm0, -⟩ := (hN 0).least L0 hL0
    have HC := Lib.hid (chain_any (fm := 0) n40 hln (HW.out.grow hb3) hN hM hm0)
    have HB3 : Hid (Below w.heap.size w w3) := Lib.hid (HB2.out.trans (hb3.mono HB2.out.size))
    clear hM hN hb3 hqm hL0 hm0
    go_wp2_with fail
    refine HC.out.mono ?_
    rintro e w4 ⟨v, L, rfl, hown, hbest, hlen, hb4⟩
    have HB4 : Hid (Below w.heap.size w w4) := Lib.hid (HB3.out.trans (hb4.mono HB3.out.size))
    have HF := Lib.hid (And.intro hown (And.intro hbest hlen))
    clear hown hbest hlen hb4
    go_wp2
    go_ret2
    refine ⟨HB4.out, .inr ⟨HE0.out.1, v, L, rfl, owns_mono HF.out.1 HB3.out.size, ?_, HF.out.2.2⟩⟩
    have h := HF.out.2.1.congr (S' := p.sure) (fun i j hij hj => suTo_sure p hij (by rw [← HN.out]; exact hj))
    rw [HLT.out, HN.out] at h
    exact h
end Go.Proofs.Ytohjinbgbfggcaa
