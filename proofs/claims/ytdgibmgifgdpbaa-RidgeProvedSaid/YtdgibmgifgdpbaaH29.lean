/-
  Parts of the proof, in the order in which they build: ProveM.
-/
import Derived.Test.YtdgibmgifgdpbaaH15
import Derived.Test.YtdgibmgifgdpbaaH25
import Derived.Test.YtdgibmgifgdpbaaH28
set_option linter.unusedVariables false
set_option linter.unusedSimpArgs false
set_option linter.unnecessarySimpa false
namespace Go.Proofs.Ytdgibmgifgdpbaa
open Go.RowKit Go.Shelf
open Lim

/-- two lists that are written -/
structure TwI (w0 : World) (n a ca b cb : Nat) (P M : List Int) (W : World) : Prop where
  g : Below w0.heap.size w0 W
  p : W.ownsRow w0.heap.size 3 1 (.slice (some ⟨a, 0, none⟩) n ca) n (ints P)
  m : W.ownsRow w0.heap.size 3 1 (.slice (some ⟨b, 0, none⟩) n cb) n (ints M)
  ne : a ≠ b
theorem TwI.put_p {w0 : World} {n a ca b cb : Nat} {P M : List Int} {W : World} (H : TwI w0 n a ca b cb P M W) (j : Nat) (v : Int) : TwI w0 n a ca b cb (P.set j v) M (W.setCell ⟨a, j, none⟩ (.int .i64 v)) :=
  ⟨H.g.setCell (p := ⟨a, j, none⟩) (H.p.lt a rfl).1 _,
   (by have h := (H.p.stored j (.int .i64 v)).1; rw [show ints (P.set j v) = (ints P).set j (.int .i64 v) from by unfold ints; rw [List.map_set]]; exact h),
   ownsRow_setCell_other H.m (a := ⟨a, j, none⟩) (fun e => H.ne.symm (by simpa [Value.ownBlock] using e)) _, H.ne⟩
theorem TwI.put_m {w0 : World} {n a ca b cb : Nat} {P M : List Int} {W : World} (H : TwI w0 n a ca b cb P M W) (j : Nat) (v : Int) : TwI w0 n a ca b cb P (M.set j v) (W.setCell ⟨b, j, none⟩ (.int .i64 v)) :=
  ⟨H.g.setCell (p := ⟨b, j, none⟩) (H.m.lt b rfl).1 _,
   ownsRow_setCell_other H.p (a := ⟨b, j, none⟩) (fun e => H.ne (by simpa [Value.ownBlock] using e)) _,
   (by have h := (H.m.stored j (.int .i64 v)).1; rw [show ints (M.set j v) = (ints M).set j (.int .i64 v) from by unfold ints; rw [List.map_set]]; exact h), H.ne⟩
theorem TwI.grow {w0 : World} {n a ca b cb : Nat} {P M : List Int} {W W' : World} (H : TwI w0 n a ca b cb P M W) (hb : Below W.heap.size W W') : TwI w0 n a ca b cb P M W' :=
  ⟨H.g.trans (hb.mono H.g.size), owns_below H.p hb, owns_below H.m hb, H.ne⟩
/-- the deck is drawn from, and memory is made -/
theorem DrS.chance {w : World} {S d : Nat} {hv : Value} {hs : List (Int × Int)} {c c' : Nat} {v : Value} {T : List Int} {W W' : World} (H : DrS w S d hv hs c v T W) (hS : d < S ∧ S ≤ w.heap.size) (hg : W.grownBy W' (some d)) (hd : Deck W' d c') : DrS w S d hv hs c' v T W' :=
  ⟨grown_trans H.gr hg, hd, owns_grown H.h hg (fun r e => by cases e; exact hS.1), owns_grown H.o hg (fun r e => by cases e; omega)⟩
/-- the ends of the first k spans -/
structure LoP (hs : List (Int × Int)) (k : Nat) (P M : List Int) : Prop where
  l1 : P.length = hs.length
  l2 : M.length = hs.length
  p : ∀ c, c < k → P.getD c 0 = (hs.getD c (0, 0)).1
  m : ∀ c, c < k → M.getD c 0 = (hs.getD c (0, 0)).2
theorem LoP.put {hs : List (Int × Int)} {k : Nat} {P M : List Int} (h : LoP hs k P M) (hk : k < hs.length) : LoP hs (k + 1) (P.set k (hs.getD k (0, 0)).1) (M.set k (hs.getD k (0, 0)).2) := by
  refine ⟨by rw [List.length_set, h.l1], by rw [List.length_set, h.l2], fun c hc => ?_, fun c hc => ?_⟩
  all_goals
    rw [getD_set]
    by_cases e : k = c
    · subst e
      first | rw [if_pos ⟨rfl, by rw [h.l1]; exact hk⟩] | rw [if_pos ⟨rfl, by rw [h.l2]; exact hk⟩]
    · rw [if_neg (fun h => e h.1)]
      first | exact h.p c (by omega) | exact h.m c (by omega)
theorem prove_low {m : Nat} {hs H : List (Int × Int)} {ss Lo Hi : List Int} {x y a b er : Int} (h : SadAns (m : Int) hs ss x y 0) (hp : LoP hs hs.length Lo Hi) (hH : Own hs Lo H) (h' : SadAns (m : Int) H ss a b er) : er = 0 ∧ a = x ∧ b = x := by
  have h := prove_just (high := false) h hp.l1 (fun c hc => by simpa using hp.p c hc) hH h'
  simpa using h
theorem prove_high {m : Nat} {hs H : List (Int × Int)} {ss Lo Hi : List Int} {x y a b er : Int} (h : SadAns (m : Int) hs ss x y 0) (hp : LoP hs hs.length Lo Hi) (hH : Own hs Hi H) (h' : SadAns (m : Int) H ss a b er) : er = 0 ∧ a = y ∧ b = y := by
  have h := prove_just (high := true) h hp.l2 (fun c hc => by simpa using hp.m c hc) hH h'
  simpa using h
/-- cells of land among the first k, in their order -/
structure MineTo (ss : List Int) (k : Nat) (L : List Nat) : Prop where
  up : L.Pairwise (· < ·)
  land : ∀ c ∈ L, c < ss.length ∧ ss.getD c 0 = 0
  lt : ∀ c ∈ L, c < k
theorem MineTo.nil (ss : List Int) : MineTo ss 0 [] := ⟨List.Pairwise.nil, fun c h => (by cases h), fun c h => (by cases h)⟩
theorem MineTo.skip {ss : List Int} {k : Nat} {L : List Nat} (h : MineTo ss k L) : MineTo ss (k + 1) L := ⟨h.up, h.land, fun c hc => by have := h.lt c hc; omega⟩
theorem MineTo.snoc {ss : List Int} {k : Nat} {L : List Nat} (h : MineTo ss k L) (hk : k < ss.length) (h0 : 0 = ss.getD k 0) : MineTo ss (k + 1) (L ++ [k]) := by
  refine ⟨List.pairwise_append.2 ⟨h.up, List.pairwise_singleton _ _, fun a ha b hb => ?_⟩, fun c hc => ?_, fun c hc => ?_⟩
  · rcases List.mem_singleton.1 hb with rfl; exact h.lt a ha
  · rcases List.mem_append.1 hc with hc | hc
    · exact h.land c hc
    · rcases List.mem_singleton.1 hc with rfl; exact ⟨hk, h0.symm⟩
  · rcases List.mem_append.1 hc with hc | hc
    · have := h.lt c hc; omega
    · rcases List.mem_singleton.1 hc with rfl; omega
theorem MineTo.len {ss : List Int} {k : Nat} {L : List Nat} (h : MineTo ss k L) : L.length ≤ k := by
  have h2 := len_le (f := id) (L := L) (L' := List.range k) (h.up.imp (fun h => Nat.ne_of_lt h)) (fun _ _ _ _ h => h) (fun a ha => List.mem_range.2 (h.lt a ha))
  simpa using h2
/-- a way of cells of land -/
structure WayTo (ss : List Int) (j : Nat) (L : List Nat) : Prop where
  len : L.length ≤ j
  land : ∀ c ∈ L, c < ss.length ∧ ss.getD c 0 = 0
theorem WayTo.nil (ss : List Int) : WayTo ss 0 [] := ⟨Nat.le_refl _, fun c h => (by cases h)⟩
theorem WayTo.snoc {ss : List Int} {j a : Nat} {L : List Nat} (h : WayTo ss j L) (ha : a < ss.length) (h0 : 0 = ss.getD a 0) : WayTo ss (j + 1) (L ++ [a]) := by
  refine ⟨by have := h.len; simp; omega, fun c hc => ?_⟩
  rcases List.mem_append.1 hc with hc | hc
  · exact h.land c hc
  · rcases List.mem_singleton.1 hc with rfl; exact ⟨ha, h0.symm⟩
theorem nats_snoc (L : List Nat) (k : Nat) : nats (L ++ [k]) = nats L ++ [(k : Int)] := by simp [nats]
/-- a place that is chosen by chance: four numbers, a draw, one of them -/
structure Nx (w0 : World) (d c : Nat) (y1 y2 y3 y4 : Int) (done : Nat → Bool) (x313 x315 x316 x317 x36 : Value) (W : World) : Prop where
  g : w0.grownBy W (some d)
  dk : Deck W d (if done 14 = true then c + 1 else c)
  d12 : done 12 = true → ∃ p, x313 = .slice (some ⟨p, 0, none⟩) 4 4 ∧ w0.heap.size ≤ p ∧ W.heap[p]? = some (.cells #[.int .i64 y1, .int .i64 y2, .int .i64 y3, .int .i64 y4] 3 (0, 0))
  d14 : done 14 = true → ∃ r : Nat, x315 = .int .i64 r ∧ r < 4
  d15 : done 15 = true → ∃ p, ∃ r : Nat, r < 4 ∧ x316 = .pointer (some ⟨p, r, none⟩) ∧ w0.heap.size ≤ p ∧ W.heap[p]? = some (.cells #[.int .i64 y1, .int .i64 y2, .int .i64 y3, .int .i64 y4] 3 (0, 0))
  d16 : done 16 = true → ∃ v, x317 = .int .i64 v ∧ (v = y1 ∨ v = y2 ∨ v = y3 ∨ v = y4)
  d17 : done 17 = true → x36 = x317 ∧ done 16 = true
theorem Nx.begin {w0 : World} {d c : Nat} (hd : Deck w0 d c) {y1 y2 y3 y4 : Int} {x313 x315 x316 x317 x36 : Value} : Nx w0 d c y1 y2 y3 y4 (fun _ => false) x313 x315 x316 x317 x36 w0 :=
  ⟨grown_refl w0 _, by simpa using hd, fun h => (by cases h), fun h => (by cases h), fun h => (by cases h), fun h => (by cases h), fun h => (by cases h)⟩
theorem grown_heap {W W' : World} {d p : Nat} {o : Obj} (hg : W.grownBy W' (some d)) (h : W.heap[p]? = some o) (hne : p ≠ d) : W'.heap[p]? = some o :=
  (hg.block p (Array.getElem?_eq_some_iff.1 h).1 (fun e => hne (by cases e; rfl))).trans h
theorem Nx.st12 {w0 : World} {d c : Nat} {y1 y2 y3 y4 : Int} {done : Nat → Bool} {x313 x315 x316 x317 x36 : Value} {W : World} (H : Nx w0 d c y1 y2 y3 y4 done x313 x315 x316 x317 x36 W) (_ : done 12 = false) :
    Nx w0 d c y1 y2 y3 y4 (fun j => if j = 12 then true else done j) (.slice (some ⟨W.heap.size, 0, none⟩) 4 4) x315 x316 x317 x36 (W.alloc (.cells #[.int .i64 y1, .int .i64 y2, .int .i64 y3, .int .i64 y4] 3)) := by
  have hb : Below W.heap.size W (W.alloc (.cells #[.int .i64 y1, .int .i64 y2, .int .i64 y3, .int .i64 y4] 3)) := (Below.refl _ W).alloc (Nat.le_refl _) _
  exact ⟨grown_on H.g hb, by simpa using H.dk.below hb, fun _ => ⟨_, rfl, H.g.size, heap_alloc_new W _⟩, fun h => by simpa using H.d14 (by simpa using h), fun h => by obtain ⟨p, r, h0, e, h1, h2⟩ := H.d15 (by simpa using h); exact ⟨p, r, h0, e, h1, heap_grow h2 hb⟩, fun h => by simpa using H.d16 (by simpa using h), fun h => by simpa using H.d17 (by simpa using h)⟩
theorem Nx.st14 {w0 : World} {d c : Nat} {y1 y2 y3 y4 : Int} {done : Nat → Bool} {x313 x315 x316 x317 x36 : Value} {W W' : World} (H : Nx w0 d c y1 y2 y3 y4 done x313 x315 x316 x317 x36 W) (hd : done 14 = false) (hw : d < w0.heap.size) {r : Nat} (hr : r < 4) (h : Dealt d c W W') :
    Nx w0 d c y1 y2 y3 y4 (fun j => if j = 14 then true else done j) x313 (.int .i64 r) x316 x317 x36 W' := by
  refine ⟨grown_trans H.g h.2.1, by simpa using h.1, fun hh => ?_, fun _ => ⟨r, rfl, hr⟩, fun hh => ?_, fun h => by simpa using H.d16 (by simpa using h), fun h => by simpa using H.d17 (by simpa using h)⟩
  · obtain ⟨p, e, h1, h2⟩ := H.d12 (by simpa using hh)
    exact ⟨p, e, h1, grown_heap h.2.1 h2 (by omega)⟩
  · obtain ⟨p, r', h0, e, h1, h2⟩ := H.d15 (by simpa using hh)
    exact ⟨p, r', h0, e, h1, grown_heap h.2.1 h2 (by omega)⟩
theorem four_cells {W : World} {p r : Nat} {y1 y2 y3 y4 : Int} {t : TypeId} (h : W.heap[p]? = some (.cells #[.int .i64 y1, .int .i64 y2, .int .i64 y3, .int .i64 y4] t (0, 0))) (hr : r < 4) :
    ∃ v, W.cell? ⟨p, r, none⟩ = some (.int .i64 v) ∧ (v = y1 ∨ v = y2 ∨ v = y3 ∨ v = y4) := by
  have : r = 0 ∨ r = 1 ∨ r = 2 ∨ r = 3 := by omega
  rcases this with rfl | rfl | rfl | rfl
  · exact ⟨y1, by simp [World.cell?, h], .inl rfl⟩
  · exact ⟨y2, by simp [World.cell?, h], .inr (.inl rfl)⟩
  · exact ⟨y3, by simp [World.cell?, h], .inr (.inr (.inl rfl))⟩
  · exact ⟨y4, by simp [World.cell?, h], .inr (.inr (.inr rfl))⟩
theorem Nx.st15 {w0 : World} {d c : Nat} {y1 y2 y3 y4 : Int} {done : Nat → Bool} {x313 x315 x316 x317 x36 : Value} {W : World} (H : Nx w0 d c y1 y2 y3 y4 done x313 x315 x316 x317 x36 W) {p r : Nat} (hr : r < 4) (hp : w0.heap.size ≤ p) (h : W.heap[p]? = some (.cells #[.int .i64 y1, .int .i64 y2, .int .i64 y3, .int .i64 y4] 3 (0, 0))) :
    Nx w0 d c y1 y2 y3 y4 (fun j => if j = 15 then true else done j) x313 x315 (.pointer (some ⟨p, r, none⟩)) x317 x36 W :=
  ⟨H.g, by simpa using H.dk, fun h => by simpa using H.d12 (by simpa using h), fun h => by simpa using H.d14 (by simpa using h), fun _ => ⟨p, r, hr, rfl, hp, h⟩, fun h => by simpa using H.d16 (by simpa using h), fun h => by simpa using H.d17 (by simpa using h)⟩
theorem Nx.st16 {w0 : World} {d c : Nat} {y1 y2 y3 y4 : Int} {done : Nat → Bool} {x313 x315 x316 x317 x36 : Value} {W : World} (H : Nx w0 d c y1 y2 y3 y4 done x313 x315 x316 x317 x36 W) (hd : done 16 = false) {v : Int} (hv : v = y1 ∨ v = y2 ∨ v = y3 ∨ v = y4) :
    Nx w0 d c y1 y2 y3 y4 (fun j => if j = 16 then true else done j) x313 x315 x316 (.int .i64 v) x36 W :=
  ⟨H.g, by simpa using H.dk, fun h => by simpa using H.d12 (by simpa using h), fun h => by simpa using H.d14 (by simpa using h), fun h => by simpa using H.d15 (by simpa using h), fun _ => ⟨v, rfl, hv⟩, fun h => by have := (H.d17 (by simpa using h)).2; rw [hd] at this; cases this⟩
theorem Nx.st17 {w0 : World} {d c : Nat} {y1 y2 y3 y4 : Int} {done : Nat → Bool} {x313 x315 x316 x317 x36 : Value} {W : World} (H : Nx w0 d c y1 y2 y3 y4 done x313 x315 x316 x317 x36 W) (h16 : done 16 = true) :
    Nx w0 d c y1 y2 y3 y4 (fun j => if j = 17 then true else done j) x313 x315 x316 x317 x317 W :=
  ⟨H.g, by simpa using H.dk, fun h => by simpa using H.d12 (by simpa using h), fun h => by simpa using H.d14 (by simpa using h), fun h => by simpa using H.d15 (by simpa using h), fun h => by simpa using H.d16 (by simpa using h), fun _ => ⟨rfl, by simpa using h16⟩⟩
end Go.Proofs.Ytdgibmgifgdpbaa
