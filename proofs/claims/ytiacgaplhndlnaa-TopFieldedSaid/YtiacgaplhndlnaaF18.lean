/-
  Parts of the proof, in the order in which they build: EvJ.
-/
import Derived.Deep.CutRange
import Derived.Test.YtiacgaplhndlnaaF17
import Derived.Test.YtiacgaplhndlnaaF7
import Derived.Test.YtiacgaplhndlnaaF11
set_option linter.unusedVariables false
set_option linter.unusedSimpArgs false
namespace Go.Proofs.Ytiacgaplhndlnaa
open Go.RowKit Go.Shelf
open Lim

attribute [local go_sem] Oper.semAt_some

theorem onto_le : ∀ (n k : Nat) (f : Nat → Nat), (∀ j, j < k → ∃ p, p < n ∧ f p = j) → k ≤ n
  | 0, 0, _, _ => Nat.le_refl _
  | 0, k + 1, _, h => by obtain ⟨p, hp, -⟩ := h 0 (by omega); omega
  | n + 1, 0, _, _ => Nat.zero_le _
  | n + 1, k + 1, f, h => by
    have := onto_le n k (fun p => if f p = k then f n else f p) (fun j hj => by
      obtain ⟨p, hp, hf⟩ := h j (by omega)
      by_cases e : p = n
      · obtain ⟨p', hp', hf'⟩ := h k (by omega)
        have hne : p' ≠ n := fun e' => by rw [e', ← e, hf] at hf'; omega
        exact ⟨p', by omega, by simp only [if_pos hf']; rw [← e]; exact hf⟩
      · exact ⟨p, by omega, by simp only [if_neg (show ¬ f p = k by omega)]; exact hf⟩)
    omega
theorem IsMany.le {m : Mp} {r : Nat → Nat} {k : Nat} (h : IsMany m r k) : k ≤ m.n := onto_le m.n k r h.ex
theorem IsMany.pos {m : Mp} {r : Nat → Nat} {k : Nat} (hm : m.Ok) (h : IsMany m r k) : 1 ≤ k := by have := h.lt 0 hm.n0; omega
set_option maxRecDepth 20000 in
set_option maxHeartbeats 1000000 in
theorem within_any {B b g : Nat} {m : Mp} {r : Nat → Nat} {kk i j : Nat} {w : World} (hm : m.Ok) (hr : IsReg m r) (hi : i < 100) (hj : j < 100) (hw : WkE w B b g m r kk) :
    Calls Try.prog 84 #[.pointer (some ⟨b, 0, none⟩), .int .i64 i, .int .i64 j] w fun e w' => w.grownBy w' (some b) ∧ WkE w' B b g m r kk ∧ ∃ z : Bool, e = .returned (.bool z) ∧ (z = true ↔ In m r i j) := by
  by_cases hij : i = j
  · subst hij
    have HW := Lib.hid hw
    clear hw
    go_enter Try.func84, Try.ntmps84
    go_wp2_with fail
    go_ret
    exact ⟨⟨rfl, rfl, rfl, Nat.le_refl _, fun _ _ _ => rfl⟩, HW.out, _, rfl, ⟨fun h => (by cases h), fun h => absurd rfl h.1⟩⟩
  · have g1 : ((i : Int) != j) = true := by simp; omega
    have g2 : (i != j) = true := by simp; omega
    have HO := Lib.hid (out_any hm hr hij hi hj hw)
    have HIJ := Lib.hid hij
    clear hw hij
    go_enter Try.func84, Try.ntmps84
    go_wp2_with fail
    refine HO.out.mono ?_
    rintro e w1 ⟨hg, hk, v, rfl, hv⟩
    have HG := Lib.hid (And.intro hg hk)
    clear hg hk
    rcases hv with ⟨rfl, hn⟩ | ⟨L, hL, -, hown⟩
    · have HN := Lib.hid hn
      clear hn
      have he : ∀ w : World, (binOp .eql 23 (.slice none 0 0) (.slice none 0 0)).run Try.prog w = .ok (.bool true) w := fun _ => rfl
      go_wp2_with fail
      go_ret
      exact ⟨HG.out.1, HG.out.2, _, rfl, ⟨fun _ => ⟨HIJ.out, HN.out⟩, fun _ => rfl⟩⟩
    · have hLl : L.length ≠ 0 := fun h => hL.ne (List.eq_nil_of_length_eq_zero h)
      obtain ⟨x, cap, rfl⟩ : ∃ x cap, v = .slice (some x) L.length cap := by
        rcases hown.2 with ⟨-, h0⟩ | ⟨g', cap, cur, h0, -⟩
        · exact absurd h0 hLl
        · exact ⟨_, _, h0⟩
      have HLL := Lib.hid hL
      clear hL hown hLl
      have he : ∀ w : World, (binOp .eql 23 (.slice (some x) L.length cap) (.slice none 0 0)).run Try.prog w = .ok (.bool false) w := fun _ => rfl
      go_wp2_with fail
      go_ret
      exact ⟨HG.out.1, HG.out.2, _, rfl, ⟨fun h => (by cases h), fun h => absurd HLL.out.out h.2⟩⟩
/-- while around lays its rows, in whatever order -/
structure AroP (w : World) (k : Nat) (done : Nat → Bool) (x2 x3 x11 x12 x17 : Value) (W : World) : Prop where
  be : Below w.heap.size w W
  d4 : done 4 = true → ∃ g, x11 = .slice (some ⟨g, 0, none⟩) k k ∧ w.heap.size ≤ g ∧ RowC W g k (fun _ => 0)
  d5 : done 5 = true → ∃ q c, x12 = .slice (some ⟨q, 0, none⟩) 1 c ∧ W.cell? ⟨q, 0, none⟩ = some (.int .i64 (-1))
  d10 : done 10 = true → ∃ g, x17 = .slice (some ⟨g, 0, none⟩) k k ∧ w.heap.size ≤ g ∧ RowC W g k (fun _ => -1)
  ne : done 4 = true → done 10 = true → x11.ownBlock ≠ x17.ownBlock
  d11 : done 11 = true → done 4 = true ∧ done 10 = true ∧ x2 = x11
  d12 : done 12 = true → done 11 = true ∧ x3 = x17
section
variable {w : World} {k : Nat} {done : Nat → Bool} {x2 x3 x11 x12 x17 : Value} {W W' : World}
theorem AroP.grow (H : AroP w k done x2 x3 x11 x12 x17 W) (hb : Below W.heap.size W W') : AroP w k done x2 x3 x11 x12 x17 W' :=
  ⟨H.be.trans (hb.mono H.be.size), fun h => let ⟨g, h1, h2, h3⟩ := H.d4 h; ⟨g, h1, h2, h3.grow hb⟩, fun h => let ⟨q, c, h1, h2⟩ := H.d5 h; ⟨q, c, h1, hb.on h2⟩, fun h => let ⟨g, h1, h2, h3⟩ := H.d10 h; ⟨g, h1, h2, h3.grow hb⟩, H.ne, H.d11, H.d12⟩
theorem RowC.lt {W : World} {g n : Nat} {R : Nat → Int} (h : RowC W g n R) : g < W.heap.size := let ⟨_, h1, _⟩ := h.o; (Array.getElem?_eq_some_iff.1 h1).1
theorem AroP.made (H0 : AroP w k done x2 x3 x11 x12 x17 W) (hd : done 4 = false) : AroP w k (dn done 4) x2 x3 (.slice (some ⟨W.heap.size, 0, none⟩) k k) x12 x17 (W.alloc (.cells (Array.replicate k (.int .i64 0)) 3)) := by
  have H := H0.grow ((Below.refl _ W).alloc (Nat.le_refl _) (.cells (Array.replicate k (.int .i64 0)) 3))
  refine ⟨H.be, fun _ => ⟨_, rfl, H0.be.size, fun j hj => ?_, fun j hj => World.frozen?_alloc_new .., ⟨_, heap_alloc_new _ _, by simp⟩⟩, fun h => H.d5 (dn_ne (by decide) h), fun h => H.d10 (dn_ne (by decide) h), fun _ h => ?_, fun h => ?_, fun h => ?_⟩
  · rw [World.cell?_alloc_new]; simp [hj]
  · obtain ⟨g, h1, -, h3⟩ := H0.d10 (dn_ne (by decide) h)
    have := h3.lt
    rw [h1]; simp [Value.ownBlock]; omega
  · have := (H0.d11 (dn_ne (by decide) h)).1; rw [hd] at this; cases this
  · have := (H0.d11 (H0.d12 (dn_ne (by decide) h)).1).1; rw [hd] at this; cases this
theorem AroP.did (H : AroP w k done x2 x3 x11 x12 x17 W) {q c : Nat} (hq : W.cell? ⟨q, 0, none⟩ = some (.int .i64 (-1))) : AroP w k (dn done 5) x2 x3 x11 (.slice (some ⟨q, 0, none⟩) 1 c) x17 W :=
  ⟨H.be, fun h => H.d4 (dn_ne (by decide) h), fun _ => ⟨q, c, rfl, hq⟩, fun h => H.d10 (dn_ne (by decide) h), fun h h' => H.ne (dn_ne (by decide) h) (dn_ne (by decide) h'), fun h => let ⟨h1, h2, h3⟩ := H.d11 (dn_ne (by decide) h); ⟨dn_on h1, dn_on h2, h3⟩, fun h => let ⟨h1, h2⟩ := H.d12 (dn_ne (by decide) h); ⟨dn_on h1, h2⟩⟩
theorem AroP.rep (H0 : AroP w k done x2 x3 x11 x12 x17 W) (hd : done 10 = false) (hb : Below W.heap.size W W') {g : Nat} (hg : W.heap.size ≤ g) (hR : RowC W' g k (fun _ => -1)) : AroP w k (dn done 10) x2 x3 x11 x12 (.slice (some ⟨g, 0, none⟩) k k) W' := by
  have H := H0.grow hb
  refine ⟨H.be, fun h => H.d4 (dn_ne (by decide) h), fun h => H.d5 (dn_ne (by decide) h), fun _ => ⟨g, rfl, Nat.le_trans H0.be.size hg, hR⟩, fun h _ => ?_, fun h => ?_, fun h => ?_⟩
  · obtain ⟨g1, h1, -, h3⟩ := H0.d4 (dn_ne (by decide) h)
    have := h3.lt
    rw [h1]; simp [Value.ownBlock]; omega
  · have := (H0.d11 (dn_ne (by decide) h)).2.1; rw [hd] at this; cases this
  · have := (H0.d11 (H0.d12 (dn_ne (by decide) h)).1).2.1; rw [hd] at this; cases this
theorem AroP.as11 (H : AroP w k done x2 x3 x11 x12 x17 W) (h4 : done 4 = true) (h10 : done 10 = true) : AroP w k (dn done 11) x11 x3 x11 x12 x17 W :=
  ⟨H.be, fun h => H.d4 (dn_ne (by decide) h), fun h => H.d5 (dn_ne (by decide) h), fun h => H.d10 (dn_ne (by decide) h), fun h h' => H.ne (dn_ne (by decide) h) (dn_ne (by decide) h'), fun _ => ⟨dn_on h4, dn_on h10, rfl⟩, fun h => let ⟨h1, h2⟩ := H.d12 (dn_ne (by decide) h); ⟨dn_on h1, h2⟩⟩
theorem AroP.as12 (H : AroP w k done x2 x3 x11 x12 x17 W) (h11 : done 11 = true) : AroP w k (dn done 12) x2 x17 x11 x12 x17 W :=
  ⟨H.be, fun h => H.d4 (dn_ne (by decide) h), fun h => H.d5 (dn_ne (by decide) h), fun h => H.d10 (dn_ne (by decide) h), fun h h' => H.ne (dn_ne (by decide) h) (dn_ne (by decide) h'), fun h => let ⟨h1, h2, h3⟩ := H.d11 (dn_ne (by decide) h); ⟨dn_on h1, dn_on h2, h3⟩, fun _ => ⟨dn_on h11, rfl⟩⟩
end
/-- what lies in memory while around reckons -/
structure AroM (w : World) (B b g : Nat) (m : Mp) (r : Nat → Nat) (k g1 g2 : Nat) (D A : Nat → Int) (W : World) : Prop where
  gb : w.grownBy W (some b)
  wk : WkE W B b g m r k
  lt : b < w.heap.size ∧ g < w.heap.size ∧ w.heap.size ≤ g1 ∧ w.heap.size ≤ g2 ∧ g1 ≠ g2
  d : RowC W g1 k D
  a : RowC W g2 k A
section
variable {w : World} {B b g : Nat} {m : Mp} {r : Nat → Nat} {k g1 g2 : Nat} {D A : Nat → Int} {W W' : World}
theorem AroM.on (h : AroM w B b g m r k g1 g2 D A W) (hg : W.grownBy W' (some b)) (hw : WkE W' B b g m r k) : AroM w B b g m r k g1 g2 D A W' := by
  have hs := Sep.of_grown hg
  have hl := h.lt
  exact ⟨⟨hg.os.trans h.gb.os, hg.tape.trans h.gb.tape, hg.output.trans h.gb.output, Nat.le_trans h.gb.size hg.size, fun x h1 h2 => (hg.block x (Nat.lt_of_lt_of_le h1 h.gb.size) h2).trans (h.gb.block x h1 h2)⟩, hw, h.lt, h.d.sep hs (fun e => by cases e; omega), h.a.sep hs (fun e => by cases e; omega)⟩
theorem AroM.sep {T : Nat → Prop} (h : AroM w B b g m r k g1 g2 D A W) (hs : Sep T W W') (hT : ∀ x, T x → x = g1 ∨ x = g2) : w.grownBy W' (some b) ∧ WkE W' B b g m r k := by
  have hl := h.lt
  have hwl := h.wk.lt
  refine ⟨⟨hs.os.trans h.gb.os, hs.tape.trans h.gb.tape, hs.output.trans h.gb.output, Nat.le_trans h.gb.size hs.size, fun x h1 h2 => (hs.same x (Nat.lt_of_lt_of_le h1 h.gb.size) (fun h3 => by have := hT x h3; omega)).trans (h.gb.block x h1 h2)⟩, h.wk.sep hs (fun h3 => by have := hT _ h3; omega) (fun h3 => by have := hT _ h3; omega) (fun x h3 => by have := hT x h3; omega)⟩
theorem AroM.setD (h : AroM w B b g m r k g1 g2 D A W) {i : Nat} (hi : i < k) (v : Int) : AroM w B b g m r k g1 g2 (upd D i v) A (W.setCell ⟨g1, i, none⟩ (.int .i64 v)) := by
  have h1 := h.sep (Sep.set W g1 i (.int .i64 v)) (fun x hx => .inl hx)
  exact ⟨h1.1, h1.2, h.lt, h.d.put hi v, h.a.sep (Sep.set W g1 i (.int .i64 v)) (fun e => h.lt.2.2.2.2 e.symm)⟩
theorem AroM.setA (h : AroM w B b g m r k g1 g2 D A W) {i : Nat} (hi : i < k) (v : Int) : AroM w B b g m r k g1 g2 D (upd A i v) (W.setCell ⟨g2, i, none⟩ (.int .i64 v)) := by
  have h1 := h.sep (Sep.set W g2 i (.int .i64 v)) (fun x hx => .inr hx)
  exact ⟨h1.1, h1.2, h.lt, h.d.sep (Sep.set W g2 i (.int .i64 v)) h.lt.2.2.2.2, h.a.put hi v⟩
end
/-- what around answers -/
def AroAns (B b g : Nat) (m : Mp) (r : Nat → Nat) (k : Nat) (w : World) (e : Ending) (w' : World) : Prop :=
  ∃ g1 g2 A, e = .returned (.tuple #[.slice (some ⟨g1, 0, none⟩) k k, .slice (some ⟨g2, 0, none⟩) k k]) ∧ AroM w B b g m r k g1 g2 (fun i => (inCount m r i k : Int)) A w' ∧ ∀ i, i < k → IsAr m r i k (A i)
set_option maxRecDepth 20000 in
set_option maxHeartbeats 2000000 in
theorem around_any {B b g : Nat} {m : Mp} {r : Nat → Nat} {k : Nat} {w : World} (hm : m.Ok) (hr : IsReg m r) (hk : IsMany m r k) (hw : WkE w B b g m r k) :
    Calls Try.prog 36 #[.pointer (some ⟨b, 0, none⟩)] w fun e w' => AroAns B b g m r k w e w' := by
  have HM := Lib.hid (And.intro hm (And.intro hr hk))
  have k100 : k ≤ 100 := Nat.le_trans hk.le hm.n1
  have k1 : 1 ≤ k := hk.pos hm
  have HW := Lib.hid hw
  have c3 := hw.c3
  clear hm hr hk hw
  go_enter Try.func36, Try.ntmps36
  refine wp_noPanic ?_
  go_wp2_with fail
  have hC : (fun W => W.cell? ⟨b, 3, none⟩ = some (.int .i64 k)) w.drew := c3
  have H0 : Hid (AroP w k (fun _ => false) (.slice none 0 0) (.slice none 0 0) undef undef undef w.drew) := Lib.hid ⟨(Below.refl _ w).drew, fun h => (by cases h), fun h => (by cases h), fun h => (by cases h), fun h => (by cases h), fun h => (by cases h), fun h => (by cases h)⟩
  refine Lim.regC' (fun W => W.cell? ⟨b, 3, none⟩ = some (.int .i64 k)) [] #[false, false, false, false, false, false, false, false, false, false, false, false, false] (by kernel_rfl) rfl ?_
  refine Lim.stepR 0 (fun _ => trivial) rfl (by kernel_rfl) (fun _ _ _ _ h => h) hC rfl ?_; apply Exists.intro; refine ⟨?_, ?_⟩
  · rintro w r1; go_simp; try with_reducible rfl
  simp only [Act.put, List.setIfInBounds_toArray, List.set_cons_succ, List.set_cons_zero]
  refine Lim.stepR 1 (fun _ => trivial) rfl (by kernel_rfl) (fun _ _ _ _ h => h) hC rfl ?_; apply Exists.intro; refine ⟨?_, ?_⟩
  · rintro w r1; go_simp; try with_reducible rfl
  simp only [Act.put, List.setIfInBounds_toArray, List.set_cons_succ, List.set_cons_zero]
  refine Lim.stepR 2 (fun _ => trivial) rfl (by kernel_rfl) (fun _ _ _ _ h => h) hC rfl ?_; apply Exists.intro; refine ⟨?_, ?_⟩
  · rintro w r1; go_simp; try with_reducible rfl
  simp only [Act.put, List.setIfInBounds_toArray, List.set_cons_succ, List.set_cons_zero]
  refine Lim.stepR 3 (fun _ => trivial) rfl (by kernel_rfl) (fun _ _ _ _ h => h) hC rfl ?_; apply Exists.intro; refine ⟨?_, ?_⟩
  · rintro w r1; go_simp; try with_reducible rfl
  simp only [Act.put, List.setIfInBounds_toArray, List.set_cons_succ, List.set_cons_zero]
  refine Lim.stepR 6 (fun _ => trivial) rfl (by kernel_rfl) (fun _ _ _ _ h => h) hC rfl ?_; apply Exists.intro; refine ⟨?_, ?_⟩
  · rintro w r1; go_simp; try with_reducible rfl
  simp only [Act.put, List.setIfInBounds_toArray, List.set_cons_succ, List.set_cons_zero]
  refine Lim.stepR 7 (fun _ => trivial) rfl (by kernel_rfl) (fun _ _ _ _ h => h) hC rfl ?_; apply Exists.intro; refine ⟨?_, ?_⟩
  · rintro w r1; go_simp; try with_reducible rfl
  simp only [Act.put, List.setIfInBounds_toArray, List.set_cons_succ, List.set_cons_zero]
  refine Lim.stepR 8 (fun _ => trivial) rfl (by kernel_rfl) (fun _ _ _ _ h => h) hC rfl ?_; apply Exists.intro; refine ⟨?_, ?_⟩
  · rintro w r1; go_simp; try with_reducible rfl
  simp only [Act.put, List.setIfInBounds_toArray, List.set_cons_succ, List.set_cons_zero]
  refine Lim.stepR 9 (fun _ => trivial) rfl (by kernel_rfl) (fun _ _ _ _ h => h) hC rfl ?_; apply Exists.intro; refine ⟨?_, ?_⟩
  · rintro w r1; go_simp; try with_reducible rfl
  simp only [Act.put, List.setIfInBounds_toArray, List.set_cons_succ, List.set_cons_zero]
  clear hC
  have hw64 : (k : Int) < 1000 := by omega
  have k100n := Lib.hid k100
  refine Lim.parC [4, 5, 10, 11, 12] (fun done a W => ∃ x2 x3 x11 x12 x17, a = { tmps := #[.pointer (some ⟨b, 0, none⟩), undef, x2, x3, undef, undef, undef, .pointer (some ⟨b, 0, none⟩), .pointer (some ⟨b, 0, none⟩), .pointer (some ⟨b, 3, none⟩), .int .i64 k, x11, x12, .pointer (some ⟨b, 0, none⟩), .pointer (some ⟨b, 0, none⟩), .pointer (some ⟨b, 3, none⟩), .int .i64 k, x17, undef, undef, undef, undef, undef, undef, undef, undef, undef, undef, undef, undef, undef, undef, undef, undef, undef, undef, undef, undef, undef, undef, undef, undef, undef, undef, undef, undef, undef, undef, undef, undef, undef, undef, undef, undef, undef, undef, undef, undef, undef, undef, undef, undef, undef, undef, undef, undef, undef], defers := [] } ∧ AroP w k done x2 x3 x11 x12 x17 W ∧ W.cell? ⟨b, 3, none⟩ = some (.int .i64 k)) (fun _ => trivial) (by kernel_rfl) rfl rfl ?hC ?step ?fin ⟨_, _, _, _, _, rfl, H0.out, c3⟩
  case hC => rintro done a W ⟨_, _, _, _, _, _, -, H⟩; exact H
  case step =>
    intro i o hi ho done a W hd hdep hS K hK
    obtain ⟨x2, x3, x11, x12, x17, rfl, H, hc⟩ := hS
    simp only [List.mem_cons, List.not_mem_nil, or_false] at hi
    rcases hi with rfl | rfl | rfl | rfl | rfl
    · cases ho
      clear hdep
      obtain ⟨i0, hi, hz0, hz1, hz2⟩ := info_parts Try.infoInt
      have hmk := made_ints (w := W) (n := k) ⟨hi, hz0, hz1, hz2⟩ (by omega)
      clear hi hz0 hz1 hz2
      go_simp
      refine hK _ _ ?_
      exact ⟨x2, x3, _, x12, x17, rfl, H.made hd, ((Below.refl _ W).alloc (Nat.le_refl _) _).on hc⟩
    · cases ho
      clear hdep
      go_simp
      refine hK _ _ ?_
      have hb : Below W.heap.size W (W.alloc (.cells #[.int .i64 (-1)] 3)) := (Below.refl _ W).alloc (Nat.le_refl _) _
      exact ⟨x2, x3, x11, _, x17, rfl, (H.grow hb).did (by simp [go_sem]), hb.on hc⟩
    · cases ho
      obtain ⟨q, c, rfl, hq⟩ := H.d5 (hdep 5 (by kernel_rfl) (by simp))
      have HR := Lib.hid (repeat_any (c := c) k100n.out k1 hq)
      clear hdep hq
      go_simp
      refine ⟨rfl, (callsIn_wide.2 HR.out).mono ?_⟩
      rintro e W' ⟨g', rfl, hR⟩
      refine hK _ _ ?_
      exact ⟨x2, x3, x11, _, _, rfl, H.rep hd hR.be hR.ge hR.row, hR.be.on hc⟩
    · cases ho
      have h4 := hdep 4 (by kernel_rfl) (by simp)
      have h10 := hdep 10 (by kernel_rfl) (by simp)
      clear hdep
      go_simp
      refine hK _ _ ?_
      exact ⟨_, x3, x11, x12, x17, rfl, H.as11 h4 h10, hc⟩
    · cases ho
      have h11 := hdep 11 (by kernel_rfl) (by simp)
      clear hdep
      go_simp
      refine hK _ _ ?_
      exact ⟨x2, _, x11, x12, x17, rfl, H.as12 h11, hc⟩
  case fin =>
    rintro done a W hall ⟨x2, x3, x11, x12, x17, rfl, H, hc⟩
    obtain ⟨g1, rfl, hg1, hD⟩ := H.d4 (hall 4 (by simp))
    obtain ⟨g2, rfl, hg2, hA⟩ := H.d10 (hall 10 (by simp))
    obtain ⟨-, -, rfl⟩ := H.d11 (hall 11 (by simp))
    obtain ⟨-, rfl⟩ := H.d12 (hall 12 (by simp))
    have hne := H.ne (hall 4 (by simp)) (hall 10 (by simp))
    have M0 : Hid (AroM w B b g m r k g1 g2 (fun _ => 0) (fun _ => -1) W) := Lib.hid ⟨⟨H.be.os, H.be.tape, H.be.output, H.be.size, fun x h1 _ => H.be.block x h1⟩, HW.out.below H.be, ⟨World.block_lt_of_cell? _ _ HW.out.c0, HW.out.row.lt, hg1, hg2, fun e => hne (by simp [Value.ownBlock, e])⟩, hD, hA⟩
    clear H hD hA hne hall hg1 hg2 HW H0
    go_wp2_with fail
    go_loopw [24] (fun v wr => ∃ i : Nat, i ≤ k ∧ v = .int .i64 i ∧ ∃ D A : Nat → Int, Hid (AroM w B b g m r k g1 g2 D A wr ∧ (∀ j, j < k → D j = if j < i then (inCount m r j k : Int) else 0) ∧ (∀ j, j < i → IsAr m r j k (A j)) ∧ (∀ j, i ≤ j → j < k → A j = -1))) (fun v _ => k - (intOf v).toNat)
    case atStart => exact ⟨0, Nat.zero_le _, rfl, _, _, Lib.hid ⟨M0.out, fun j _ => by simp, fun j hj => absurd hj (Nat.not_lt_zero _), fun _ _ _ => rfl⟩⟩
    case round =>
      clear M0 hc c3
      obtain ⟨i, hi, rfl, D, A, hI⟩ := hrel
      by_cases hlt : i < k
      · have hi64 : (i : Int) < 100 := by omega
        have d3 := hI.out.1.wk.c3
        go_wp2_with fail
        have hlt' := Lib.hid hlt
        go_loopw [31] (fun v wr => ∃ t : Nat, t ≤ k ∧ v = .int .i64 t ∧ ∃ D' A' : Nat → Int, Hid (AroM w B b g m r k g1 g2 D' A' wr ∧ (∀ j, j ≠ i → D' j = D j ∧ A' j = A j) ∧ D' i = (inCount m r i t : Int) ∧ IsAr m r i t (A' i))) (fun v _ => k - (intOf v).toNat)
        case atStart => exact ⟨0, Nat.zero_le _, rfl, D, A, Lib.hid ⟨hI.out.1, fun _ _ => ⟨rfl, rfl⟩, by rw [hI.out.2.1 i hlt'.out, if_neg (Nat.lt_irrefl _)]; rfl, by rw [hI.out.2.2.2 i (Nat.le_refl _) hlt'.out]; exact IsAr.nil⟩⟩
        case round =>
          clear d3
          obtain ⟨t, ht, rfl, D', A', hT⟩ := hrel
          by_cases htl : t < k
          · have ht64 : (t : Int) < 100 := by omega
            have HWI := Lib.hid (within_any (i := i) (j := t) HM.out.1 HM.out.2.1 (by omega) (by omega) hT.out.1.wk)
            go_wp2_with fail
            refine HWI.out.mono ?_
            rintro e w2 ⟨hg2, hk2, z, rfl, hz⟩
            have HT2 := Lib.hid (And.intro (hT.out.1.on hg2 hk2) hT.out.2)
            have HZ := Lib.hid hz
            clear hg2 hk2 hz HWI hT
            cases z with
            | false =>
              go_wp2_with fail
              go_roundw
              case rel =>
                have hn : ¬ In m r i t := fun h => by have := HZ.out.2 h; cases this
                exact ⟨t + 1, by omega, by go_num, D', A', Lib.hid ⟨HT2.out.1, HT2.out.2.1, by rw [inCount_skip hn]; exact HT2.out.2.2.1, HT2.out.2.2.2.skip hn⟩⟩
              case measure => simp [intOf]; omega
            | true =>
              have HIN : Hid (In m r i t) := Lib.hid (HZ.out.1 rfl)
              clear HZ
              obtain ⟨cN, hcN⟩ : ∃ cN, cN = inCount m r i t := ⟨_, rfl⟩
              have hc100 : (cN : Int) < 1000 := by have := inCount_le (m := m) (r := r) (i := i) t; omega
              have e1 : w2.cell? ⟨g1, i, none⟩ = some (.int .i64 cN) := by rw [hcN, ← HT2.out.2.2.1]; exact HT2.out.1.d.c i hlt'.out
              have e2 := HT2.out.1.d.f i hlt'.out
              have HCN := Lib.hid hcN
              have HT3 : Hid (AroM w B b g m r k g1 g2 (upd D' i ((cN + 1 : Nat) : Int)) A' (w2.setCell ⟨g1, i, none⟩ (.int .i64 ((cN : Int) + 1))) ∧ (∀ j, j ≠ i → upd D' i ((cN + 1 : Nat) : Int) j = D j ∧ A' j = A j) ∧ upd D' i ((cN + 1 : Nat) : Int) i = (inCount m r i (t + 1) : Int) ∧ IsAr m r i t (A' i)) :=
                Lib.hid ⟨HT2.out.1.setD hlt'.out ((cN + 1 : Nat) : Int), fun j hj => ⟨(upd_ne _ _ hj).trans (HT2.out.2.1 j hj).1, (HT2.out.2.1 j hj).2⟩, by rw [upd_same, inCount_add HIN.out, hcN], HT2.out.2.2.2⟩
              clear hcN HT2
              go_upto_region 11 with (fail)
              generalize w2.setCell ⟨g1, i, none⟩ (.int .i64 ((cN : Int) + 1)) = w3 at HT3 ⊢
              clear e1 e2 hc100
              obtain ⟨a, ha⟩ : ∃ a, a = A' i := ⟨_, rfl⟩
              have e3 : w3.cell? ⟨g2, i, none⟩ = some (.int .i64 a) := by rw [ha]; exact HT3.out.1.a.c i hlt'.out
              have e4 := HT3.out.1.a.f i hlt'.out
              have HAA := Lib.hid ha
              have HSET : Hid (∀ w5, AroM w B b g m r k g1 g2 (upd D' i ((cN + 1 : Nat) : Int)) A' w5 → IsAr m r i (t + 1) t → Hid (AroM w B b g m r k g1 g2 (upd D' i ((cN + 1 : Nat) : Int)) (upd A' i t) (w5.setCell ⟨g2, i, none⟩ (.int .i64 t)) ∧ (∀ j, j ≠ i → upd D' i ((cN + 1 : Nat) : Int) j = D j ∧ upd A' i t j = A j) ∧ upd D' i ((cN + 1 : Nat) : Int) i = (inCount m r i (t + 1) : Int) ∧ IsAr m r i (t + 1) (upd A' i t i))) :=
                Lib.hid (fun w5 h5 hx => Lib.hid ⟨h5.setA hlt'.out t, fun j hj => ⟨(HT3.out.2.1 j hj).1, (upd_ne _ _ hj).trans (HT3.out.2.1 j hj).2⟩, HT3.out.2.2.1, by rw [upd_same]; exact hx⟩)
              clear ha
              by_cases ha1 : a = -1
              · subst ha1
                have HX := Lib.hid (HSET.out w3 HT3.out.1 (IsAr.first (by rw [HAA.out]; exact HT3.out.2.2.2) HIN.out)).out
                go_wp2_with fail
                go_roundw
                case rel => exact ⟨t + 1, by omega, by go_num, _, _, HX⟩
                case measure => simp [intOf]; omega
              · have ga : (a == -1) = false := by rw [beq_eq_false_iff_ne]; exact ha1
                obtain ⟨aN, haN, haT⟩ : ∃ aN : Nat, a = aN ∧ aN < t := by
                  have h := HT3.out.2.2.2
                  rw [← HAA.out] at h
                  rcases h with ⟨h1, -⟩ | ⟨x, h1, h2, -⟩
                  · exact absurd h1 ha1
                  · exact ⟨x, h1, h2⟩
                subst haN
                have HWI := Lib.hid (within_any (i := t) (j := aN) HM.out.1 HM.out.2.1 (by omega) (by omega) HT3.out.1.wk)
                clear ha1
                go_wp2_with fail
                refine HWI.out.mono ?_
                rintro e w5 ⟨hg5, hk5, z, rfl, hz⟩
                have HT5 := Lib.hid (HT3.out.1.on hg5 hk5)
                have e5 := HT5.out.a.c i hlt'.out
                have e6 := HT5.out.a.f i hlt'.out
                have HZ := Lib.hid hz
                clear hg5 hk5 hz HWI e3 e4
                cases z with
                | true =>
                  have HX := Lib.hid (HSET.out w5 HT5.out (IsAr.nearer (by rw [HAA.out]; exact HT3.out.2.2.2) HIN.out (HZ.out.1 rfl))).out
                  go_wp2_with fail
                  go_roundw
                  case rel => exact ⟨t + 1, by omega, by go_num, _, _, HX⟩
                  case measure => simp [intOf]; omega
                | false =>
                  have HX : Hid (IsAr m r i (t + 1) (A' i)) := Lib.hid (by
                    have h := IsAr.farther HM.out.1 HM.out.2.1 (HM.out.2.2.ex i hlt'.out) (a := aN) (t := t) (by rw [HAA.out]; exact HT3.out.2.2.2) HIN.out (fun h => by have := HZ.out.2 h; cases this)
                    rw [HAA.out] at h
                    exact h)
                  go_wp2_with fail
                  go_roundw
                  case rel => exact ⟨t + 1, by omega, by go_num, _, _, Lib.hid ⟨HT5.out, HT3.out.2.1, HT3.out.2.2.1, HX.out⟩⟩
                  case measure => simp [intOf]; omega
          · obtain rfl : t = k := by omega
            have HT := Lib.hid hT.out
            clear hT
            go_wp2_with fail
            go_roundw
            case rel =>
              refine ⟨i + 1, by have := hlt'.out; omega, by go_num, D', A', Lib.hid ⟨HT.out.1, fun j hj => ?_, fun j hj => ?_, fun j h1 h2 => ?_⟩⟩
              · by_cases e : j = i
                · subst e; rw [if_pos (by omega)]; exact HT.out.2.2.1
                · rw [(HT.out.2.1 j e).1, hI.out.2.1 j hj]
                  by_cases h : j < i
                  · rw [if_pos h, if_pos (by omega)]
                  · rw [if_neg h, if_neg (by omega)]
              · by_cases e : j = i
                · subst e; exact HT.out.2.2.2
                · rw [(HT.out.2.1 j e).2]; exact hI.out.2.2.1 j (by omega)
              · rw [(HT.out.2.1 j (by omega)).2]; exact hI.out.2.2.2 j (by omega) h2
            case measure => simp [intOf]; have := hlt'.out; omega
      · obtain rfl : i = k := by omega
        have HI := Lib.hid hI.out
        clear hI
        go_wp2_with fail
        refine bodyPost_ret (results_two rfl _ _ rfl rfl) rfl ⟨g1, g2, A, rfl, ?_, fun j hj => HI.out.2.2.1 j hj⟩
        have hd : RowC wr g1 i (fun j => (inCount m r j i : Int)) := ⟨fun j hj => by have h := HI.out.1.d.c j hj; rw [HI.out.2.1 j hj, if_pos hj] at h; exact h, HI.out.1.d.f, HI.out.1.d.o⟩
        exact ⟨HI.out.1.gb, HI.out.1.wk, HI.out.1.lt, hd, HI.out.1.a⟩
end Go.Proofs.Ytiacgaplhndlnaa
