/-
  Parts of the proof, in the order in which they build: EvH.
-/
import Derived.Test.YtiacgaplhndlnaaF13
import Derived.Test.YtiacgaplhndlnaaF14
import Derived.Test.YtiacgaplhndlnaaF7
set_option linter.unusedVariables false
set_option linter.unusedSimpArgs false
namespace Go.Proofs.Ytiacgaplhndlnaa
open Go.RowKit Go.Shelf
open Lim


section
variable {B b g : Nat} {m : Mp} {r : Nat → Nat} {k : Nat} {W W' w : World} {T : Nat → Prop}
theorem WkE.sep (h : WkE W B b g m r k) (hs : Sep T W W') (hb : ¬ T b) (hg : ¬ T g) (hT : ∀ k, T k → B ≤ k) : WkE W' B b g m r k := by
  obtain ⟨ov, h1, h2⟩ := h.c1
  obtain ⟨M, h3⟩ := h.mt
  have hB : B ≤ W.heap.size := by have := World.block_lt_of_cell? _ _ h.c0; have := h.lt.1; simp at *; omega
  exact ⟨h.lt, hs.cell h.c0 hb, ⟨ov, hs.cell h1 hb, h2.below (hs.below hB hT)⟩, hs.cell h.c2 hb, hs.cell h.c3 hb, ⟨M, h3.sep hs hb⟩, h.row.sep hs hg⟩
theorem WkE.below (h : WkE W B b g m r k) (hb : Below W.heap.size W W') : WkE W' B b g m r k := h.sep (T := fun _ => False) (Sep.of_below hb) id id (fun _ h => h.elim)
theorem WkE.steady {B' : Nat} (h : WkE W B b g m r k) (hs : Steady B' W W') : WkE W' B b g m r k := by
  obtain ⟨ov, h1, h2⟩ := h.c1
  obtain ⟨M, h3⟩ := h.mt
  exact ⟨h.lt, hs.cell h.c0, ⟨ov, hs.cell h1, h2.steady hs⟩, hs.cell h.c2, hs.cell h.c3, ⟨M, h3.steady hs⟩, h.row.steady hs⟩
theorem MetE.mark {M : Nat → Bool} (h : MetE W b M) {p : Nat} (hp : p < 100) : MetE (W.setCell ⟨b, 4 + p, none⟩ (.bool true)) b (updB M p) := by
  intro k hk
  refine ⟨?_, by rw [World.frozen?_setCell]; exact (h k hk).2⟩
  by_cases e : k = p
  · subst e; rw [updB_same]; exact setCell_same _ _ (h k hk).1
  · rw [updB_ne _ e, setCell_off _ _ (by omega)]; exact (h k hk).1
theorem WkE.mark (h : WkE W B b g m r k) {M : Nat → Bool} (hM : MetE W b M) {p : Nat} (hp : p < 100) : WkE (W.setCell ⟨b, 4 + p, none⟩ (.bool true)) B b g m r k := by
  obtain ⟨ov, h1, h2⟩ := h.c1
  have hs := Sep.set W b (4 + p) (.bool true)
  have hB : B ≤ W.heap.size := by have := World.block_lt_of_cell? _ _ h.c0; have := h.lt.1; simp at *; omega
  refine ⟨h.lt, ?_, ⟨ov, ?_, h2.below (hs.below hB (fun k hk => by rw [hk]; exact h.lt.1))⟩, ?_, ?_, ⟨_, hM.mark hp⟩, h.row.sep hs (fun e => h.lt.2.2 e.symm)⟩
  · rw [setCell_off _ _ (by omega)]; exact h.c0
  · rw [setCell_off _ _ (by omega)]; exact h1
  · rw [setCell_off _ _ (by omega)]; exact h.c2
  · rw [setCell_off _ _ (by omega)]; exact h.c3
/-- what lies in memory while out runs -/
structure OuM (w : World) (B b g : Nat) (m : Mp) (r : Nat → Nat) (kk j q3 q5 qm q7 q8 bs : Nat) (M : Nat → Bool) (mn : Nat) (F : Int → Int) (q : List Nat) (W : World) : Prop where
  gb : w.grownBy W (some b)
  lt : b < w.heap.size ∧ g < w.heap.size ∧ w.heap.size = q3 ∧ q3 < q5 ∧ q5 < qm ∧ qm < q7 ∧ q7 < q8 ∧ q8 < bs
  c3 : W.cell? ⟨q3, 0, none⟩ = some (.pointer (some ⟨b, 0, none⟩))
  c5 : W.cell? ⟨q5, 0, none⟩ = some (.int .i64 j)
  mp : MapI W qm mn F
  c7 : W.cell? ⟨q7, 0, none⟩ = some (.map (some qm))
  c8 : W.cell? ⟨q8, 0, none⟩ = some (.func (.func 157) #[] #[.pointer (some ⟨q3, 0, none⟩), .pointer (some ⟨q5, 0, none⟩)])
  wk : WkE W B b g m r kk
  mt : MetE W b M
  st : StM bs q W
section
variable {j q3 q5 qm q7 q8 bs : Nat} {M : Nat → Bool} {mn : Nat} {F : Int → Int} {q q' : List Nat}
theorem OuM.sep (h : OuM w B b g m r k j q3 q5 qm q7 q8 bs M mn F q W) (hs : Sep T W W') (hT : ∀ x, T x → bs ≤ x) (hst : StM bs q' W') : OuM w B b g m r k j q3 q5 qm q7 q8 bs M mn F q' W' := by
  obtain ⟨l1, l2, l3, l4, l5, l6, l7, l8⟩ := h.lt
  have hl := h.wk.lt
  have no : ∀ x, x < bs → ¬ T x := fun x hx h => by have := hT x h; omega
  refine ⟨⟨hs.os.trans h.gb.os, hs.tape.trans h.gb.tape, hs.output.trans h.gb.output, Nat.le_trans h.gb.size hs.size, fun x h1 h2 => (hs.same x (Nat.lt_of_lt_of_le h1 h.gb.size) (no x (by omega))).trans (h.gb.block x h1 h2)⟩, h.lt, hs.cell h.c3 (no _ (by omega)), hs.cell h.c5 (no _ (by omega)), h.mp.same (hs.same qm h.mp.lt (no _ (by omega))), hs.cell h.c7 (no _ (by omega)), hs.cell h.c8 (no _ (by omega)), h.wk.sep hs (no _ (by omega)) (no _ (by omega)) (fun x hx => by have := hT x hx; omega), h.mt.sep hs (no _ (by omega)), hst⟩
theorem OuM.below (h : OuM w B b g m r k j q3 q5 qm q7 q8 bs M mn F q W) (hb : Below W.heap.size W W') : OuM w B b g m r k j q3 q5 qm q7 q8 bs M mn F q W' := h.sep (T := fun _ => False) (Sep.of_below hb) (fun _ h => h.elim) (h.st.below hb)
theorem OuM.steady {B' : Nat} (h : OuM w B b g m r k j q3 q5 qm q7 q8 bs M mn F q W) (hs : Steady B' W W') (hB : bs ≤ B') : OuM w B b g m r k j q3 q5 qm q7 q8 bs M mn F q W' := by
  obtain ⟨l1, l2, l3, l4, l5, l6, l7, l8⟩ := h.lt
  refine ⟨⟨hs.os.trans h.gb.os, hs.tape.trans h.gb.tape, hs.output.trans h.gb.output, Nat.le_trans h.gb.size hs.size, fun x h1 h2 => ?_⟩, h.lt, hs.cell h.c3, hs.cell h.c5, h.mp.same ?_, hs.cell h.c7, hs.cell h.c8, h.wk.steady hs, h.mt.steady hs, h.st.steady hs⟩
  · have hlt : x < W.heap.size := Nat.lt_of_lt_of_le h1 h.gb.size
    rw [hs.same x _ (Array.getElem?_eq_getElem hlt) (.inl (by omega)), ← h.gb.block x h1 h2, Array.getElem?_eq_getElem hlt]
  · have hlt := h.mp.lt
    rw [hs.same qm _ (Array.getElem?_eq_getElem hlt) (.inl (by omega)), Array.getElem?_eq_getElem hlt]
theorem OuM.mark (h : OuM w B b g m r k j q3 q5 qm q7 q8 bs M mn F q W) {p : Nat} (hp : p < 100) : OuM w B b g m r k j q3 q5 qm q7 q8 bs (updB M p) mn F q (W.setCell ⟨b, 4 + p, none⟩ (.bool true)) := by
  obtain ⟨l1, l2, l3, l4, l5, l6, l7, l8⟩ := h.lt
  have hs := Sep.set W b (4 + p) (.bool true)
  refine ⟨⟨h.gb.os, h.gb.tape, h.gb.output, Nat.le_trans h.gb.size hs.size, fun x h1 h2 => (hs.same x (Nat.lt_of_lt_of_le h1 h.gb.size) (fun e => h2 (by rw [e]))).trans (h.gb.block x h1 h2)⟩, h.lt, hs.cell h.c3 (by omega), hs.cell h.c5 (by omega), h.mp.same (hs.same qm h.mp.lt (by omega)), hs.cell h.c7 (by omega), hs.cell h.c8 (by omega), h.wk.mark h.mt hp, h.mt.mark hp, h.st.sep hs (fun x hx => by omega)⟩
theorem OuM.note {mn' : Nat} {F' : Int → Int} (h : OuM w B b g m r k j q3 q5 qm q7 q8 bs M mn F q W) (hm : MapI W' qm mn' F') (hg : W.grownBy W' (some qm)) : OuM w B b g m r k j q3 q5 qm q7 q8 bs M mn' F' q W' := by
  obtain ⟨l1, l2, l3, l4, l5, l6, l7, l8⟩ := h.lt
  have hl := h.wk.lt
  have hs := Sep.of_grown hg
  have no : ∀ x, x ≠ qm → ¬ some qm = some x := fun x hx e => hx (by cases e; rfl)
  refine ⟨⟨hg.os.trans h.gb.os, hg.tape.trans h.gb.tape, hg.output.trans h.gb.output, Nat.le_trans h.gb.size hg.size, fun x h1 h2 => (hs.same x (Nat.lt_of_lt_of_le h1 h.gb.size) (no x (by omega))).trans (h.gb.block x h1 h2)⟩, h.lt, hs.cell h.c3 (no _ (by omega)), hs.cell h.c5 (no _ (by omega)), hm, hs.cell h.c7 (no _ (by omega)), hs.cell h.c8 (no _ (by omega)), h.wk.sep hs (no _ (by omega)) (no _ (by omega)) (fun x hx => by cases hx; omega), h.mt.sep hs (no _ (by omega)), h.st.sep hs (fun x hx => by cases hx; omega)⟩
theorem OuM.more (h : OuM w B b g m r k j q3 q5 qm q7 q8 bs M mn F q W) : OuM w B b g m r k j q3 q5 qm q7 q8 bs M (mn + 1) F q W := ⟨h.gb, h.lt, h.c3, h.c5, h.mp.more, h.c7, h.c8, h.wk, h.mt, h.st⟩
end
end
set_option maxRecDepth 20000 in
set_option maxHeartbeats 1000000 in
theorem free_any {q3 q5 b g n p : Nat} {rp j : Nat} {mp : Bool} {w : World} (hn : n ≤ 100) (hp : p < n) (h3 : w.cell? ⟨q3, 0, none⟩ = some (.pointer (some ⟨b, 0, none⟩))) (h2 : w.cell? ⟨b, 2, none⟩ = some (.slice (some ⟨g, 0, none⟩) n n)) (hr : w.cell? ⟨g, p, none⟩ = some (.int .i64 rp)) (h5 : w.cell? ⟨q5, 0, none⟩ = some (.int .i64 j)) (hm : w.cell? ⟨b, 4 + p, none⟩ = some (.bool mp)) :
    Calls Try.prog 157 #[.int .i64 p, .pointer (some ⟨q3, 0, none⟩), .pointer (some ⟨q5, 0, none⟩)] w fun e w' => e = .returned (.bool (decide (rp ≠ j) && !mp)) ∧ Below w.heap.size w w' := by
  have hp64 : (p : Int) < 100 := by omega
  by_cases e : rp = j
  · subst e
    have hd : Hid ((decide (rp ≠ rp) && !mp) = false) := Lib.hid (by simp)
    go_enter Try.func157, Try.ntmps157
    go_wp2_with fail
    have hC : (fun W => W.cell? ⟨q3, 0, none⟩ = some (.pointer (some ⟨b, 0, none⟩)) ∧ W.cell? ⟨b, 2, none⟩ = some (.slice (some ⟨g, 0, none⟩) n n) ∧ W.cell? ⟨g, p, none⟩ = some (.int .i64 rp) ∧ W.cell? ⟨q5, 0, none⟩ = some (.int .i64 rp) ∧ W.cell? ⟨b, 4 + p, none⟩ = some (.bool mp)) w.drew := ⟨h3, h2, hr, h5, hm⟩
    refine Lim.regC' (fun W => W.cell? ⟨q3, 0, none⟩ = some (.pointer (some ⟨b, 0, none⟩)) ∧ W.cell? ⟨b, 2, none⟩ = some (.slice (some ⟨g, 0, none⟩) n n) ∧ W.cell? ⟨g, p, none⟩ = some (.int .i64 rp) ∧ W.cell? ⟨q5, 0, none⟩ = some (.int .i64 rp) ∧ W.cell? ⟨b, 4 + p, none⟩ = some (.bool mp)) [] #[false, false, false, false, false, false, false, false, false, false, false, false, false, false, false, false, false, false, false] (by kernel_rfl) rfl ?_
    refine Lim.stepR 0 (fun _ => trivial) rfl (by kernel_rfl) (fun _ _ _ _ h => h) hC rfl ?_; apply Exists.intro; refine ⟨?_, ?_⟩
    · rintro w ⟨r1, r2, r3, r4, r5⟩; go_simp; try with_reducible rfl
    simp only [Act.put, List.setIfInBounds_toArray, List.set_cons_succ, List.set_cons_zero]
    refine Lim.stepR 1 (fun _ => trivial) rfl (by kernel_rfl) (fun _ _ _ _ h => h) hC rfl ?_; apply Exists.intro; refine ⟨?_, ?_⟩
    · rintro w ⟨r1, r2, r3, r4, r5⟩; go_simp; try with_reducible rfl
    simp only [Act.put, List.setIfInBounds_toArray, List.set_cons_succ, List.set_cons_zero]
    refine Lim.stepR 2 (fun _ => trivial) rfl (by kernel_rfl) (fun _ _ _ _ h => h) hC rfl ?_; apply Exists.intro; refine ⟨?_, ?_⟩
    · rintro w ⟨r1, r2, r3, r4, r5⟩; go_simp; try with_reducible rfl
    simp only [Act.put, List.setIfInBounds_toArray, List.set_cons_succ, List.set_cons_zero]
    refine Lim.stepR 3 (fun _ => trivial) rfl (by kernel_rfl) (fun _ _ _ _ h => h) hC rfl ?_; apply Exists.intro; refine ⟨?_, ?_⟩
    · rintro w ⟨r1, r2, r3, r4, r5⟩; go_simp; try with_reducible rfl
    simp only [Act.put, List.setIfInBounds_toArray, List.set_cons_succ, List.set_cons_zero]
    refine Lim.stepR 4 (fun _ => trivial) rfl (by kernel_rfl) (fun _ _ _ _ h => h) hC rfl ?_; apply Exists.intro; refine ⟨?_, ?_⟩
    · rintro w ⟨r1, r2, r3, r4, r5⟩; go_simp; try with_reducible rfl
    simp only [Act.put, List.setIfInBounds_toArray, List.set_cons_succ, List.set_cons_zero]
    refine Lim.stepR 5 (fun _ => trivial) rfl (by kernel_rfl) (fun _ _ _ _ h => h) hC rfl ?_; apply Exists.intro; refine ⟨?_, ?_⟩
    · rintro w ⟨r1, r2, r3, r4, r5⟩; go_simp; try with_reducible rfl
    simp only [Act.put, List.setIfInBounds_toArray, List.set_cons_succ, List.set_cons_zero]
    refine Lim.stepR 6 (fun _ => trivial) rfl (by kernel_rfl) (fun _ _ _ _ h => h) hC rfl ?_; apply Exists.intro; refine ⟨?_, ?_⟩
    · rintro w ⟨r1, r2, r3, r4, r5⟩; go_simp; try with_reducible rfl
    simp only [Act.put, List.setIfInBounds_toArray, List.set_cons_succ, List.set_cons_zero]
    refine Lim.stepR 7 (fun _ => trivial) rfl (by kernel_rfl) (fun _ _ _ _ h => h) hC rfl ?_; apply Exists.intro; refine ⟨?_, ?_⟩
    · rintro w ⟨r1, r2, r3, r4, r5⟩; go_simp; try with_reducible rfl
    simp only [Act.put, List.setIfInBounds_toArray, List.set_cons_succ, List.set_cons_zero]
    refine Lim.stepR 8 (fun _ => trivial) rfl (by kernel_rfl) (fun _ _ _ _ h => h) hC rfl ?_; apply Exists.intro; refine ⟨?_, ?_⟩
    · rintro w ⟨r1, r2, r3, r4, r5⟩; go_simp; try with_reducible rfl
    simp only [Act.put, List.setIfInBounds_toArray, List.set_cons_succ, List.set_cons_zero]
    refine Lim.stepR 9 (fun _ => trivial) rfl (by kernel_rfl) (fun _ _ _ _ h => h) hC rfl ?_; apply Exists.intro; refine ⟨?_, ?_⟩
    · rintro w ⟨r1, r2, r3, r4, r5⟩; go_simp; try with_reducible rfl
    simp only [Act.put, List.setIfInBounds_toArray, List.set_cons_succ, List.set_cons_zero]
    refine Lim.stepS 10 (fun _ => trivial) rfl (by kernel_rfl) (fun _ _ _ _ h => h) hC rfl ?_
    simp only [Act.put, List.setIfInBounds_toArray, List.set_cons_succ, List.set_cons_zero]
    refine Lim.stepS 11 (fun _ => trivial) rfl (by kernel_rfl) (fun _ _ _ _ h => h) hC rfl ?_
    simp only [Act.put, List.setIfInBounds_toArray, List.set_cons_succ, List.set_cons_zero]
    refine Lim.stepS 12 (fun _ => trivial) rfl (by kernel_rfl) (fun _ _ _ _ h => h) hC rfl ?_
    simp only [Act.put, List.setIfInBounds_toArray, List.set_cons_succ, List.set_cons_zero]
    refine Lim.stepS 13 (fun _ => trivial) rfl (by kernel_rfl) (fun _ _ _ _ h => h) hC rfl ?_
    simp only [Act.put, List.setIfInBounds_toArray, List.set_cons_succ, List.set_cons_zero]
    refine Lim.stepS 14 (fun _ => trivial) rfl (by kernel_rfl) (fun _ _ _ _ h => h) hC rfl ?_
    simp only [Act.put, List.setIfInBounds_toArray, List.set_cons_succ, List.set_cons_zero]
    refine Lim.stepS 15 (fun _ => trivial) rfl (by kernel_rfl) (fun _ _ _ _ h => h) hC rfl ?_
    simp only [Act.put, List.setIfInBounds_toArray, List.set_cons_succ, List.set_cons_zero]
    refine Lim.stepS 16 (fun _ => trivial) rfl (by kernel_rfl) (fun _ _ _ _ h => h) hC rfl ?_
    simp only [Act.put, List.setIfInBounds_toArray, List.set_cons_succ, List.set_cons_zero]
    refine Lim.stepR 17 (fun _ => trivial) rfl (by kernel_rfl) (fun _ _ _ _ h => h) hC rfl ?_; apply Exists.intro; refine ⟨?_, ?_⟩
    · rintro w ⟨r1, r2, r3, r4, r5⟩; go_simp; try with_reducible rfl
    simp only [Act.put, List.setIfInBounds_toArray, List.set_cons_succ, List.set_cons_zero]
    refine Lim.stepR 18 (fun _ => trivial) rfl (by kernel_rfl) (fun _ _ _ _ h => h) hC rfl ?_; apply Exists.intro; refine ⟨?_, ?_⟩
    · rintro w ⟨r1, r2, r3, r4, r5⟩; go_simp; try with_reducible rfl
    simp only [Act.put, List.setIfInBounds_toArray, List.set_cons_succ, List.set_cons_zero]
    refine Lim.stepD (by kernel_rfl) ?_
    go_wp2
    go_ret
    exact ⟨by first | rfl | (rw [hd.out]; rfl), (Below.refl _ _).drew⟩
  · have g1 : ((rp : Int) != j) = true := by simp; omega
    have hd : Hid ((decide (rp ≠ j) && !mp) = !mp) := Lib.hid (by simp [e])
    go_enter Try.func157, Try.ntmps157
    go_wp2_with fail
    have hC : (fun W => W.cell? ⟨q3, 0, none⟩ = some (.pointer (some ⟨b, 0, none⟩)) ∧ W.cell? ⟨b, 2, none⟩ = some (.slice (some ⟨g, 0, none⟩) n n) ∧ W.cell? ⟨g, p, none⟩ = some (.int .i64 rp) ∧ W.cell? ⟨q5, 0, none⟩ = some (.int .i64 j) ∧ W.cell? ⟨b, 4 + p, none⟩ = some (.bool mp)) w.drew := ⟨h3, h2, hr, h5, hm⟩
    refine Lim.regC' (fun W => W.cell? ⟨q3, 0, none⟩ = some (.pointer (some ⟨b, 0, none⟩)) ∧ W.cell? ⟨b, 2, none⟩ = some (.slice (some ⟨g, 0, none⟩) n n) ∧ W.cell? ⟨g, p, none⟩ = some (.int .i64 rp) ∧ W.cell? ⟨q5, 0, none⟩ = some (.int .i64 j) ∧ W.cell? ⟨b, 4 + p, none⟩ = some (.bool mp)) [] #[false, false, false, false, false, false, false, false, false, false, false, false, false, false, false, false, false, false, false] (by kernel_rfl) rfl ?_
    refine Lim.stepR 0 (fun _ => trivial) rfl (by kernel_rfl) (fun _ _ _ _ h => h) hC rfl ?_; apply Exists.intro; refine ⟨?_, ?_⟩
    · rintro w ⟨r1, r2, r3, r4, r5⟩; go_simp; try with_reducible rfl
    simp only [Act.put, List.setIfInBounds_toArray, List.set_cons_succ, List.set_cons_zero]
    refine Lim.stepR 1 (fun _ => trivial) rfl (by kernel_rfl) (fun _ _ _ _ h => h) hC rfl ?_; apply Exists.intro; refine ⟨?_, ?_⟩
    · rintro w ⟨r1, r2, r3, r4, r5⟩; go_simp; try with_reducible rfl
    simp only [Act.put, List.setIfInBounds_toArray, List.set_cons_succ, List.set_cons_zero]
    refine Lim.stepR 2 (fun _ => trivial) rfl (by kernel_rfl) (fun _ _ _ _ h => h) hC rfl ?_; apply Exists.intro; refine ⟨?_, ?_⟩
    · rintro w ⟨r1, r2, r3, r4, r5⟩; go_simp; try with_reducible rfl
    simp only [Act.put, List.setIfInBounds_toArray, List.set_cons_succ, List.set_cons_zero]
    refine Lim.stepR 3 (fun _ => trivial) rfl (by kernel_rfl) (fun _ _ _ _ h => h) hC rfl ?_; apply Exists.intro; refine ⟨?_, ?_⟩
    · rintro w ⟨r1, r2, r3, r4, r5⟩; go_simp; try with_reducible rfl
    simp only [Act.put, List.setIfInBounds_toArray, List.set_cons_succ, List.set_cons_zero]
    refine Lim.stepR 4 (fun _ => trivial) rfl (by kernel_rfl) (fun _ _ _ _ h => h) hC rfl ?_; apply Exists.intro; refine ⟨?_, ?_⟩
    · rintro w ⟨r1, r2, r3, r4, r5⟩; go_simp; try with_reducible rfl
    simp only [Act.put, List.setIfInBounds_toArray, List.set_cons_succ, List.set_cons_zero]
    refine Lim.stepR 5 (fun _ => trivial) rfl (by kernel_rfl) (fun _ _ _ _ h => h) hC rfl ?_; apply Exists.intro; refine ⟨?_, ?_⟩
    · rintro w ⟨r1, r2, r3, r4, r5⟩; go_simp; try with_reducible rfl
    simp only [Act.put, List.setIfInBounds_toArray, List.set_cons_succ, List.set_cons_zero]
    refine Lim.stepR 6 (fun _ => trivial) rfl (by kernel_rfl) (fun _ _ _ _ h => h) hC rfl ?_; apply Exists.intro; refine ⟨?_, ?_⟩
    · rintro w ⟨r1, r2, r3, r4, r5⟩; go_simp; try with_reducible rfl
    simp only [Act.put, List.setIfInBounds_toArray, List.set_cons_succ, List.set_cons_zero]
    refine Lim.stepR 7 (fun _ => trivial) rfl (by kernel_rfl) (fun _ _ _ _ h => h) hC rfl ?_; apply Exists.intro; refine ⟨?_, ?_⟩
    · rintro w ⟨r1, r2, r3, r4, r5⟩; go_simp; try with_reducible rfl
    simp only [Act.put, List.setIfInBounds_toArray, List.set_cons_succ, List.set_cons_zero]
    refine Lim.stepR 8 (fun _ => trivial) rfl (by kernel_rfl) (fun _ _ _ _ h => h) hC rfl ?_; apply Exists.intro; refine ⟨?_, ?_⟩
    · rintro w ⟨r1, r2, r3, r4, r5⟩; go_simp; try with_reducible rfl
    simp only [Act.put, List.setIfInBounds_toArray, List.set_cons_succ, List.set_cons_zero]
    refine Lim.stepR 9 (fun _ => trivial) rfl (by kernel_rfl) (fun _ _ _ _ h => h) hC rfl ?_; apply Exists.intro; refine ⟨?_, ?_⟩
    · rintro w ⟨r1, r2, r3, r4, r5⟩; go_simp; try with_reducible rfl
    simp only [Act.put, List.setIfInBounds_toArray, List.set_cons_succ, List.set_cons_zero]
    refine Lim.stepR 10 (fun _ => trivial) rfl (by kernel_rfl) (fun _ _ _ _ h => h) hC rfl ?_; apply Exists.intro; refine ⟨?_, ?_⟩
    · rintro w ⟨r1, r2, r3, r4, r5⟩; go_simp; try with_reducible rfl
    simp only [Act.put, List.setIfInBounds_toArray, List.set_cons_succ, List.set_cons_zero]
    refine Lim.stepR 11 (fun _ => trivial) rfl (by kernel_rfl) (fun _ _ _ _ h => h) hC rfl ?_; apply Exists.intro; refine ⟨?_, ?_⟩
    · rintro w ⟨r1, r2, r3, r4, r5⟩; go_simp; try with_reducible rfl
    simp only [Act.put, List.setIfInBounds_toArray, List.set_cons_succ, List.set_cons_zero]
    refine Lim.stepR 12 (fun _ => trivial) rfl (by kernel_rfl) (fun _ _ _ _ h => h) hC rfl ?_; apply Exists.intro; refine ⟨?_, ?_⟩
    · rintro w ⟨r1, r2, r3, r4, r5⟩; go_simp; try with_reducible rfl
    simp only [Act.put, List.setIfInBounds_toArray, List.set_cons_succ, List.set_cons_zero]
    refine Lim.stepR 13 (fun _ => trivial) rfl (by kernel_rfl) (fun _ _ _ _ h => h) hC rfl ?_; apply Exists.intro; refine ⟨?_, ?_⟩
    · rintro w ⟨r1, r2, r3, r4, r5⟩; go_simp; try with_reducible rfl
    simp only [Act.put, List.setIfInBounds_toArray, List.set_cons_succ, List.set_cons_zero]
    refine Lim.stepR 14 (fun _ => trivial) rfl (by kernel_rfl) (fun _ _ _ _ h => h) hC rfl ?_; apply Exists.intro; refine ⟨?_, ?_⟩
    · rintro w ⟨r1, r2, r3, r4, r5⟩; go_simp; try with_reducible rfl
    simp only [Act.put, List.setIfInBounds_toArray, List.set_cons_succ, List.set_cons_zero]
    refine Lim.stepR 15 (fun _ => trivial) rfl (by kernel_rfl) (fun _ _ _ _ h => h) hC rfl ?_; apply Exists.intro; refine ⟨?_, ?_⟩
    · rintro w ⟨r1, r2, r3, r4, r5⟩; go_simp; try with_reducible rfl
    simp only [Act.put, List.setIfInBounds_toArray, List.set_cons_succ, List.set_cons_zero]
    refine Lim.stepR 16 (fun _ => trivial) rfl (by kernel_rfl) (fun _ _ _ _ h => h) hC rfl ?_; apply Exists.intro; refine ⟨?_, ?_⟩
    · rintro w ⟨r1, r2, r3, r4, r5⟩; go_simp; try with_reducible rfl
    simp only [Act.put, List.setIfInBounds_toArray, List.set_cons_succ, List.set_cons_zero]
    refine Lim.stepR 17 (fun _ => trivial) rfl (by kernel_rfl) (fun _ _ _ _ h => h) hC rfl ?_; apply Exists.intro; refine ⟨?_, ?_⟩
    · rintro w ⟨r1, r2, r3, r4, r5⟩; go_simp; try with_reducible rfl
    simp only [Act.put, List.setIfInBounds_toArray, List.set_cons_succ, List.set_cons_zero]
    refine Lim.stepR 18 (fun _ => trivial) rfl (by kernel_rfl) (fun _ _ _ _ h => h) hC rfl ?_; apply Exists.intro; refine ⟨?_, ?_⟩
    · rintro w ⟨r1, r2, r3, r4, r5⟩; go_simp; try with_reducible rfl
    simp only [Act.put, List.setIfInBounds_toArray, List.set_cons_succ, List.set_cons_zero]
    refine Lim.stepD (by kernel_rfl) ?_
    go_wp2
    go_ret
    exact ⟨by first | rfl | (rw [hd.out]; rfl), (Below.refl _ _).drew⟩
end Go.Proofs.Ytiacgaplhndlnaa
