/-
  Parts of the proof, in the order in which they build: EqL.
-/
import Derived.Test.YtohjinbgbfggcaaA9
set_option linter.unusedVariables false
set_option linter.unusedSimpArgs false
namespace Go.Proofs.Ytohjinbgbfggcaa
open Go.RowKit Go.Shelf
open Lim

/-- lists of numbers that are only read -/
def RowsR (W : World) (v : Value) (Ls : List (List Int)) : Prop :=
  ∃ a c, v = .slice a Ls.length c ∧ (Ls ≠ [] → ∃ b o, a = some ⟨b, o, none⟩ ∧ b < W.heap.size ∧ ∀ (k : Nat) (l : List Int), Ls[k]? = some l → ∃ x, W.cell? ⟨b, o + k, none⟩ = some x ∧ RS W.heap.size W x l.length (ints l))
theorem RowsR.below {W W' : World} {v : Value} {Ls : List (List Int)} (h : RowsR W v Ls) (hb : Below W.heap.size W W') : RowsR W' v Ls := by
  obtain ⟨a, c, rfl, h⟩ := h
  refine ⟨a, c, rfl, fun hne => ?_⟩
  obtain ⟨b, o, rfl, hlt, h2⟩ := h hne
  refine ⟨b, o, rfl, Nat.lt_of_lt_of_le hlt hb.size, fun k l hk => ?_⟩
  obtain ⟨x, h3, h4⟩ := h2 k l hk
  exact ⟨x, hb.on h3, (h4.below hb).mono hb.size⟩
theorem RowsR.of_rows {S : Nat} {W : World} {v : Value} {Ls : List (List Int)} (h : RowsI S W v Ls) : RowsR W v Ls := by
  obtain ⟨vs, h1, h2⟩ := h
  obtain ⟨a, c, rfl, h3⟩ := RS.of_owns h1
  refine ⟨a, c, rfl, fun hne => ?_⟩
  have hl : vs.length = Ls.length := by have := h1.1; omega
  obtain ⟨b, o, rfl, hlt, h4⟩ := h3 (fun e => hne (List.eq_nil_of_length_eq_zero (by rw [← hl, e]; rfl)))
  refine ⟨b, o, rfl, hlt, fun k l hk => ?_⟩
  obtain ⟨x, h5, h6⟩ := h2 k l hk
  exact ⟨x, h4 k x h5, RS.of_owns h6⟩
set_option maxRecDepth 20000 in
set_option maxHeartbeats 2000000 in
theorem equalall_any {v1 v2 : Value} {Ls : List (List Int)} {w : World} (hn : Ls.length ≤ 1000) (hl : ∀ l ∈ Ls, l.length ≤ 1000) (h1 : RowsR w v1 Ls) (h2 : RowsR w v2 Ls) :
    Calls Try.prog 38 #[v1, v2] w fun e w' => e = .returned (.bool true) ∧ Below w.heap.size w w' := by
  have HR := Lib.hid (And.intro h1 (And.intro h2 hl))
  obtain ⟨a1, c1, rfl, -⟩ := h1
  obtain ⟨a2, c2, rfl, -⟩ := h2
  obtain ⟨n, hnn⟩ : ∃ n, n = Ls.length := ⟨_, rfl⟩
  rw [← hnn] at hn HR ⊢
  have HN := Lib.hid hnn
  clear hnn hl
  go_enter Try.func38, Try.ntmps38
  go_wp2_with fail
  go_loopw [8] (fun i W => ∃ k : Nat, k ≤ n ∧ i = .int .i64 (k : Int) ∧ Hid (Below w.heap.size w W)) (fun i _ => n - (intOf i).toNat)
  case atStart => exact ⟨0, Nat.zero_le _, rfl, Lib.hid (Below.refl _ _)⟩
  case round =>
    obtain ⟨k, hk, rfl, hbr⟩ := hrel
    by_cases hlt : k < n
    · have hne : Ls ≠ [] := fun e => by have := HN.out; rw [e] at this; simp at this; omega
      have hkl : Ls[k]? = some (Ls[k]'(by have := HN.out; omega)) := List.getElem?_eq_getElem _
      obtain ⟨l, hll⟩ : ∃ l, l = Ls[k]'(by have := HN.out; omega) := ⟨_, rfl⟩
      rw [← hll] at hkl
      have hmem : l ∈ Ls := List.mem_of_getElem? hkl
      obtain ⟨b1, o1, rfl, x, hx, hrx⟩ : ∃ b1 o1, a1 = some ⟨b1, o1, none⟩ ∧ ∃ x, w.cell? ⟨b1, o1 + k, none⟩ = some x ∧ RS w.heap.size w x l.length (ints l) := by
        obtain ⟨a', c', e, h⟩ := HR.out.1
        cases e
        obtain ⟨b, o, rfl, -, h3⟩ := h hne
        obtain ⟨x, h4, h5⟩ := h3 k l hkl
        exact ⟨b, o, rfl, x, h4, h5⟩
      obtain ⟨b2, o2, rfl, y, hy, hry⟩ : ∃ b2 o2, a2 = some ⟨b2, o2, none⟩ ∧ ∃ x, w.cell? ⟨b2, o2 + k, none⟩ = some x ∧ RS w.heap.size w x l.length (ints l) := by
        obtain ⟨a', c', e, h⟩ := HR.out.2.1
        cases e
        obtain ⟨b, o, rfl, -, h3⟩ := h hne
        obtain ⟨x, h4, h5⟩ := h3 k l hkl
        exact ⟨b, o, rfl, x, h4, h5⟩
      have HCE : Hid (∀ W, Below w.heap.size w W → Calls Try.prog 30 #[x, y] W fun e w' => e = .returned (.bool true) ∧ Below W.heap.size W w') := Lib.hid fun W hW => by
        have := equal_ints (w := W) (HR.out.2.2 l hmem) (hrx.below hW) (hry.below hW)
        rw [decide_eq_true (rfl : l = l)] at this
        exact this
      obtain ⟨ax, cx, rfl, -⟩ := hrx
      obtain ⟨ay, cy, rfl, -⟩ := hry
      obtain ⟨lx, hlx⟩ : ∃ x, x = l.length := ⟨_, rfl⟩
      rw [← hlx] at hx hy HCE
      have hC : (fun W => W.cell? ⟨b1, o1 + k, none⟩ = some (.slice ax lx cx) ∧ W.cell? ⟨b2, o2 + k, none⟩ = some (.slice ay lx cy)) wr.drew := ⟨by simpa using hbr.out.on hx, by simpa using hbr.out.on hy⟩
      have HB4 : Hid (Below w.heap.size w wr.drew) := Lib.hid hbr.out.drew
      have d1 : decide (n ≤ k) = false := decide_eq_false (by omega)
      have d2 : decide ((n : Int) ≤ (k : Int)) = false := decide_eq_false (by omega)
      have hk64 : k < 1000 := by omega
      clear hne hkl hll hmem hx hy hlx
      go_wp2_with fail
      generalize hW0 : wr.drew = w4 at HB4 hC
      refine Lim.regC' (fun W => W.cell? ⟨b1, o1 + k, none⟩ = some (.slice ax lx cx) ∧ W.cell? ⟨b2, o2 + k, none⟩ = some (.slice ay lx cy)) [] #[false, false, false, false, false, false, false, false, false, false, false, false, false, false, false, false] (by kernel_rfl) rfl ?_
      rw [hW0]; clear hW0
      refine Lim.stepR 0 (fun _ => trivial) rfl (by kernel_rfl) (fun _ _ _ _ h => h) hC rfl ?_; apply Exists.intro; refine ⟨?_, ?_⟩
      · rintro w ⟨r0, r1⟩; go_simp; try with_reducible rfl
      simp only [Act.put, List.setIfInBounds_toArray, List.set_cons_succ, List.set_cons_zero]
      refine Lim.stepR 1 (fun _ => trivial) rfl (by kernel_rfl) (fun _ _ _ _ h => h) hC rfl ?_; apply Exists.intro; refine ⟨?_, ?_⟩
      · rintro w ⟨r0, r1⟩; go_simp; try with_reducible rfl
      simp only [Act.put, List.setIfInBounds_toArray, List.set_cons_succ, List.set_cons_zero]
      refine Lim.stepR 2 (fun _ => trivial) rfl (by kernel_rfl) (fun _ _ _ _ h => h) hC rfl ?_; apply Exists.intro; refine ⟨?_, ?_⟩
      · rintro w ⟨r0, r1⟩; go_simp; try with_reducible rfl
      simp only [Act.put, List.setIfInBounds_toArray, List.set_cons_succ, List.set_cons_zero]
      refine Lim.stepR 3 (fun _ => trivial) rfl (by kernel_rfl) (fun _ _ _ _ h => h) hC rfl ?_; apply Exists.intro; refine ⟨?_, ?_⟩
      · rintro w ⟨r0, r1⟩; go_simp; try with_reducible rfl
      simp only [Act.put, List.setIfInBounds_toArray, List.set_cons_succ, List.set_cons_zero]
      refine Lim.stepR 4 (fun _ => trivial) rfl (by kernel_rfl) (fun _ _ _ _ h => h) hC rfl ?_; apply Exists.intro; refine ⟨?_, ?_⟩
      · rintro w ⟨r0, r1⟩; go_simp; try with_reducible rfl
      simp only [Act.put, List.setIfInBounds_toArray, List.set_cons_succ, List.set_cons_zero]
      refine Lim.stepR 5 (fun _ => trivial) rfl (by kernel_rfl) (fun _ _ _ _ h => h) hC rfl ?_; apply Exists.intro; refine ⟨?_, ?_⟩
      · rintro w ⟨r0, r1⟩; go_simp; try with_reducible rfl
      simp only [Act.put, List.setIfInBounds_toArray, List.set_cons_succ, List.set_cons_zero]
      refine Lim.stepR 6 (fun _ => trivial) rfl (by kernel_rfl) (fun _ _ _ _ h => h) hC rfl ?_; apply Exists.intro; refine ⟨?_, ?_⟩
      · rintro w ⟨r0, r1⟩; go_simp; try with_reducible rfl
      simp only [Act.put, List.setIfInBounds_toArray, List.set_cons_succ, List.set_cons_zero]
      refine Lim.stepR 7 (fun _ => trivial) rfl (by kernel_rfl) (fun _ _ _ _ h => h) hC rfl ?_; apply Exists.intro; refine ⟨?_, ?_⟩
      · rintro w ⟨r0, r1⟩; go_simp; try with_reducible rfl
      simp only [Act.put, List.setIfInBounds_toArray, List.set_cons_succ, List.set_cons_zero]
      refine Lim.stepR 8 (fun _ => trivial) rfl (by kernel_rfl) (fun _ _ _ _ h => h) hC rfl ?_; apply Exists.intro; refine ⟨?_, ?_⟩
      · rintro w ⟨r0, r1⟩; go_simp; try with_reducible rfl
      simp only [Act.put, List.setIfInBounds_toArray, List.set_cons_succ, List.set_cons_zero]
      refine Lim.stepR 9 (fun _ => trivial) rfl (by kernel_rfl) (fun _ _ _ _ h => h) hC rfl ?_; apply Exists.intro; refine ⟨?_, ?_⟩
      · rintro w ⟨r0, r1⟩; go_simp; try with_reducible rfl
      simp only [Act.put, List.setIfInBounds_toArray, List.set_cons_succ, List.set_cons_zero]
      refine Lim.stepR 10 (fun _ => trivial) rfl (by kernel_rfl) (fun _ _ _ _ h => h) hC rfl ?_; apply Exists.intro; refine ⟨?_, ?_⟩
      · rintro w ⟨r0, r1⟩; go_simp; try with_reducible rfl
      simp only [Act.put, List.setIfInBounds_toArray, List.set_cons_succ, List.set_cons_zero]
      refine Lim.stepR 11 (fun _ => trivial) rfl (by kernel_rfl) (fun _ _ _ _ h => h) hC rfl ?_; apply Exists.intro; refine ⟨?_, ?_⟩
      · rintro w ⟨r0, r1⟩; go_simp; try with_reducible rfl
      simp only [Act.put, List.setIfInBounds_toArray, List.set_cons_succ, List.set_cons_zero]
      refine Lim.stepR 12 (fun _ => trivial) rfl (by kernel_rfl) (fun _ _ _ _ h => h) hC rfl ?_; apply Exists.intro; refine ⟨?_, ?_⟩
      · rintro w ⟨r0, r1⟩; go_simp; try with_reducible rfl
      simp only [Act.put, List.setIfInBounds_toArray, List.set_cons_succ, List.set_cons_zero]
      refine Lim.stepE 13 (fun _ => trivial) rfl (by kernel_rfl) rfl (fun K hK => ?_)   -- E call
      go_simp
      refine ⟨rfl, (callsIn_wide.2 (HCE.out _ HB4.out)).mono ?_⟩
      rintro e w5 ⟨rfl, hb5⟩
      have hC5 : (fun W => W.cell? ⟨b1, o1 + k, none⟩ = some (.slice ax lx cx) ∧ W.cell? ⟨b2, o2 + k, none⟩ = some (.slice ay lx cy)) w5 := ⟨hb5.on hC.1, hb5.on hC.2⟩
      have HB5 : Hid (Below w.heap.size w w5) := Lib.hid (HB4.out.trans (hb5.mono HB4.out.size))
      clear hb5
      refine hK _ _ hC5 ?_
      simp only [Act.put, List.setIfInBounds_toArray, List.set_cons_succ, List.set_cons_zero]
      refine Lim.stepR 14 (fun _ => trivial) rfl (by kernel_rfl) (fun _ _ _ _ h => h) hC5 rfl ?_; apply Exists.intro; refine ⟨?_, ?_⟩
      · rintro w ⟨r0, r1⟩; go_simp; try with_reducible rfl
      simp only [Act.put, List.setIfInBounds_toArray, List.set_cons_succ, List.set_cons_zero]
      refine Lim.stepR 15 (fun _ => trivial) rfl (by kernel_rfl) (fun _ _ _ _ h => h) hC5 rfl ?_; apply Exists.intro; refine ⟨?_, ?_⟩
      · rintro w ⟨r0, r1⟩; go_simp; try with_reducible rfl
      simp only [Act.put, List.setIfInBounds_toArray, List.set_cons_succ, List.set_cons_zero]
      refine Lim.stepD (by kernel_rfl) ?_
      clear hC5
      go_wp2
      go_roundw
      case rel => exact ⟨k + 1, by omega, by go_num, HB5⟩
      case measure => simp [intOf]; omega
    · obtain rfl : n = k := by omega
      have dn : ((n : Int) == (n : Int)) = true := by simp
      go_wp2
      go_ret
      exact ⟨rfl, hbr.out⟩
end Go.Proofs.Ytohjinbgbfggcaa
