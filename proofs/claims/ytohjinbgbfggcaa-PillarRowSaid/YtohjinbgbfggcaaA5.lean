/-
  Parts of the proof, in the order in which they build: PiH.
-/
import Derived.Scope
import Derived.Test.YtohjinbgbfggcaaA3
import Derived.Test.YtohjinbgbfggcaaA4
set_option linter.unusedVariables false
set_option linter.unusedSimpArgs false
namespace Go.Proofs.Ytohjinbgbfggcaa
open Go.RowKit Go.Shelf
open Lim

theorem setCell_farP (w : World) {p q i j : Nat} (v : Value) (h : p ≠ q) : (w.setCell ⟨p, i, none⟩ v).cell? ⟨q, j, none⟩ = w.cell? ⟨q, j, none⟩ := World.cell?_setCell_other w _ _ _ (fun e => h (congrArg Addr.block e))
set_option maxRecDepth 20000 in
set_option maxHeartbeats 1000000 in
theorem hides_worst {p : Pf} {b n ab ao ac gb go gc i j k b4 b5 b6 b7 : Nat} {w : World} (hp : p.Ok) (hn : n = p.n) (hik : i < k) (hkj : k < j) (hj : j < n) (hc : PfC w b p (.slice (some ⟨ab, ao, none⟩) n ac) (.slice (some ⟨gb, go, none⟩) n gc)) (hl : PfL w.heap.size w p ab ao ac gb go gc)
    (h4 : w.cell? ⟨b4, 0, none⟩ = some (.pointer (some ⟨b, 0, none⟩))) (h5 : w.cell? ⟨b5, 0, none⟩ = some (.int .i64 i)) (h6 : w.cell? ⟨b6, 0, none⟩ = some (.int .i64 j)) (h7 : w.cell? ⟨b7, 0, none⟩ = some (.func (.func 47) #[] #[])) (h8 : w.cell? ⟨b7, 1, none⟩ = some (.func (.func 46) #[] #[])) :
    Calls Try.prog 44 #[.int .i64 k, .pointer (some ⟨b4, 0, none⟩), .pointer (some ⟨b5, 0, none⟩), .pointer (some ⟨b6, 0, none⟩), .pointer (some ⟨b7, 0, none⟩)] w fun e w' => e = .returned (.bool (decide (0 ≤ p.short false true i j k))) ∧ Below w.heap.size w w' := by
  have HS := Lib.hid (short_worst hp hn hik hkj hj hc hl)
  clear hp hn hik hkj hj hc hl
  go_enter Try.func44, Try.ntmps44
  go_wp2_with fail
  clear h4 h5 h6 h7 h8
  refine HS.out.mono ?_
  rintro e w1 ⟨rfl, hb⟩
  obtain ⟨x, hx⟩ : ∃ x, x = p.short false true i j k := ⟨_, rfl⟩
  rw [← hx]
  have HB := Lib.hid hb
  have HX := Lib.hid hx
  clear hb hx HS
  go_wp2
  go_ret
  exact ⟨by rw [← HX.out]; rfl, HB.out⟩
/-- what sees keeps -/
structure SeM_worst (w : World) (b n ac gc i j b4 b5 b6 b7 ab ao gb go : Nat) (p : Pf) (W : World) : Prop where
  be : Below w.heap.size w W
  c : PfC W b p (.slice (some ⟨ab, ao, none⟩) n ac) (.slice (some ⟨gb, go, none⟩) n gc)
  l : PfL W.heap.size W p ab ao ac gb go gc
  h4 : W.cell? ⟨b4, 0, none⟩ = some (.pointer (some ⟨b, 0, none⟩))
  h5 : W.cell? ⟨b5, 0, none⟩ = some (.int .i64 i)
  h6 : W.cell? ⟨b6, 0, none⟩ = some (.int .i64 j)
  h7 : W.cell? ⟨b7, 0, none⟩ = some (.func (.func 47) #[] #[])
  h8 : W.cell? ⟨b7, 1, none⟩ = some (.func (.func 46) #[] #[])
theorem SeM_worst.grow {w : World} {b n ac gc i j b4 b5 b6 b7 ab ao gb go : Nat} {p : Pf} {W W' : World} (H : SeM_worst w b n ac gc i j b4 b5 b6 b7 ab ao gb go p W) (hb : Below W.heap.size W W') : SeM_worst w b n ac gc i j b4 b5 b6 b7 ab ao gb go p W' :=
  ⟨H.be.trans (hb.mono H.be.size), H.c.grow hb, (H.l.grow hb).mono hb.size, hb.on H.h4, hb.on H.h5, hb.on H.h6, hb.on H.h7, hb.on H.h8⟩
theorem SeM_worst.put5 {w : World} {b n ac gc i j b4 b5 b6 b7 ab ao gb go : Nat} {p : Pf} {W : World} (H : SeM_worst w b n ac gc i j b4 b5 b6 b7 ab ao gb go p W) (lo : Nat) (hb : w.heap.size ≤ b5 ∧ b4 < b5 ∧ b5 < b6 ∧ b6 < b7 ∧ b < b5 ∧ ab < b5 ∧ gb < b5) :
    SeM_worst w b n ac gc lo j b4 b5 b6 b7 ab ao gb go p (W.setCell ⟨b5, 0, none⟩ (.int .i64 lo)) := by
  have off : ∀ (r o : Nat) (u : Value), r ≠ b5 → W.cell? ⟨r, o, none⟩ = some u → (W.setCell ⟨b5, 0, none⟩ (.int .i64 lo)).cell? ⟨r, o, none⟩ = some u := fun r o u h1 h => by
    rw [setCell_farP _ _ (Ne.symm h1)]; exact h
  have hsz : (W.setCell ⟨b5, 0, none⟩ (.int .i64 lo)).heap.size = W.heap.size := by simp [World.setCell]
  have self : (W.setCell ⟨b5, 0, none⟩ (.int .i64 lo)).cell? ⟨b5, 0, none⟩ = some (.int .i64 lo) := World.cell?_setCell_same' _ _ _ (by rw [H.h5]; rfl)
  exact ⟨H.be.setCell (p := ⟨b5, 0, none⟩) (by show w.heap.size ≤ b5; omega) _, ⟨off _ _ _ (by omega) H.c.c0, off _ _ _ (by omega) H.c.c1, off _ _ _ (by omega) H.c.c2, off _ _ _ (by omega) H.c.c3, off _ _ _ (by omega) H.c.c4⟩,
    ⟨by rw [hsz]; exact H.l.lab, by rw [hsz]; exact H.l.lgb, fun x hx => off _ _ _ (by omega) (H.l.ca x hx), fun x hx => ⟨off _ _ _ (by omega) (H.l.cg x hx).1, off _ _ _ (by omega) (H.l.cg x hx).2⟩⟩,
    off _ _ _ (by omega) H.h4, self, off _ _ _ (by omega) H.h6, off _ _ _ (by omega) H.h7, off _ _ _ (by omega) H.h8⟩
theorem SeM_worst.put6 {w : World} {b n ac gc i j b4 b5 b6 b7 ab ao gb go : Nat} {p : Pf} {W : World} (H : SeM_worst w b n ac gc i j b4 b5 b6 b7 ab ao gb go p W) (up : Nat) (hb : w.heap.size ≤ b5 ∧ b4 < b5 ∧ b5 < b6 ∧ b6 < b7 ∧ b < b5 ∧ ab < b5 ∧ gb < b5) :
    SeM_worst w b n ac gc i up b4 b5 b6 b7 ab ao gb go p (W.setCell ⟨b6, 0, none⟩ (.int .i64 up)) := by
  have off : ∀ (r o : Nat) (u : Value), r ≠ b6 → W.cell? ⟨r, o, none⟩ = some u → (W.setCell ⟨b6, 0, none⟩ (.int .i64 up)).cell? ⟨r, o, none⟩ = some u := fun r o u h1 h => by
    rw [setCell_farP _ _ (Ne.symm h1)]; exact h
  have hsz : (W.setCell ⟨b6, 0, none⟩ (.int .i64 up)).heap.size = W.heap.size := by simp [World.setCell]
  have self : (W.setCell ⟨b6, 0, none⟩ (.int .i64 up)).cell? ⟨b6, 0, none⟩ = some (.int .i64 up) := World.cell?_setCell_same' _ _ _ (by rw [H.h6]; rfl)
  exact ⟨H.be.setCell (p := ⟨b6, 0, none⟩) (by show w.heap.size ≤ b6; omega) _, ⟨off _ _ _ (by omega) H.c.c0, off _ _ _ (by omega) H.c.c1, off _ _ _ (by omega) H.c.c2, off _ _ _ (by omega) H.c.c3, off _ _ _ (by omega) H.c.c4⟩,
    ⟨by rw [hsz]; exact H.l.lab, by rw [hsz]; exact H.l.lgb, fun x hx => off _ _ _ (by omega) (H.l.ca x hx), fun x hx => ⟨off _ _ _ (by omega) (H.l.cg x hx).1, off _ _ _ (by omega) (H.l.cg x hx).2⟩⟩,
    off _ _ _ (by omega) H.h4, off _ _ _ (by omega) H.h5, self, off _ _ _ (by omega) H.h7, off _ _ _ (by omega) H.h8⟩
/-- what is done of the two assignments -/
structure SeS_worst (w : World) (b n ac gc i j lo up b4 b5 b6 b7 ab ao gb go : Nat) (p : Pf) (done : Nat → Bool) (x16 x17 : Value) (W : World) : Prop where
  m : SeM_worst w b n ac gc (if done 6 = true then lo else i) (if done 7 = true then up else j) b4 b5 b6 b7 ab ao gb go p W
  f : W.frozen? ⟨b5, 0, none⟩ = false ∧ W.frozen? ⟨b6, 0, none⟩ = false
  d4 : done 4 = true → x16 = .int .i64 j
  d5 : done 5 = true → x17 = .int .i64 up
  w7 : done 7 = true → done 4 = true ∧ done 5 = true ∧ done 6 = true
set_option maxRecDepth 20000 in
set_option maxHeartbeats 2000000 in
theorem sees_worst {p : Pf} {b n ab ao ac gb go gc i j : Nat} {w : World} (hp : p.Ok) (hn : n = p.n) (hi : i < n) (hj : j < n) (hc : PfC w b p (.slice (some ⟨ab, ao, none⟩) n ac) (.slice (some ⟨gb, go, none⟩) n gc)) (hl : PfL w.heap.size w p ab ao ac gb go gc) :
    Calls Try.prog 20 #[.pointer (some ⟨b, 0, none⟩), .int .i64 i, .int .i64 j, .agg #[.func (.func 47) #[] #[], .func (.func 46) #[] #[]]] w fun e w' => e = .returned (.bool (p.sees false true i j)) ∧ Below w.heap.size w w' := by
  have HP := Lib.hid (And.intro hp (And.intro hn (And.intro hi hj)))
  have n40 : n ≤ 40 := by rw [hn]; exact hp.n40
  obtain ⟨lo, hlo⟩ : ∃ x, x = min i j := ⟨_, rfl⟩
  obtain ⟨up, hup⟩ : ∃ x, x = max i j := ⟨_, rfl⟩
  have e1 : (if j < i then (j : Int) else (i : Int)) = (lo : Int) := by split <;> omega
  have e2 : (if i < j then (j : Int) else (i : Int)) = (up : Int) := by split <;> omega
  have HLU : Hid (lo ≤ up ∧ up < n ∧ n ≤ 40 ∧ lo = min i j ∧ up = max i j) := Lib.hid (by omega)
  have hbb : Below w.heap.size w (((((w.alloc (.cells #[.pointer (some ⟨b, 0, none⟩)] 58)).alloc (.cells #[.int .i64 i] 3)).alloc (.cells #[.int .i64 j] 3)).alloc (.cells #[.func (.func 47) #[] #[], .func (.func 46) #[] #[]] 65))) := ((((Below.refl _ w).alloc (Nat.le_refl _) _).alloc (by simp) _).alloc (by simp; omega) _).alloc (by simp; omega) _
  have HM : Hid (SeM_worst w b n ac gc i j w.heap.size (w.heap.size + 1) (w.heap.size + 1 + 1) (w.heap.size + 1 + 1 + 1) ab ao gb go p (((((w.alloc (.cells #[.pointer (some ⟨b, 0, none⟩)] 58)).alloc (.cells #[.int .i64 i] 3)).alloc (.cells #[.int .i64 j] 3)).alloc (.cells #[.func (.func 47) #[] #[], .func (.func 46) #[] #[]] 65)))) := Lib.hid
    ⟨hbb, hc.grow hbb, (hl.grow hbb).mono hbb.size, by simp [go_sem], by simp [go_sem], by simp [go_sem], by simp [go_sem], by simp [go_sem]⟩
  have HFZ : Hid ((((((w.alloc (.cells #[.pointer (some ⟨b, 0, none⟩)] 58)).alloc (.cells #[.int .i64 i] 3)).alloc (.cells #[.int .i64 j] 3)).alloc (.cells #[.func (.func 47) #[] #[], .func (.func 46) #[] #[]] 65))).frozen? ⟨w.heap.size + 1, 0, none⟩ = false ∧ (((((w.alloc (.cells #[.pointer (some ⟨b, 0, none⟩)] 58)).alloc (.cells #[.int .i64 i] 3)).alloc (.cells #[.int .i64 j] 3)).alloc (.cells #[.func (.func 47) #[] #[], .func (.func 46) #[] #[]] 65))).frozen? ⟨w.heap.size + 1 + 1, 0, none⟩ = false) := Lib.hid ⟨by simp [go_sem], by simp [go_sem]⟩
  have HBW : Hid (b < w.heap.size ∧ ab < w.heap.size ∧ gb < w.heap.size) := Lib.hid ⟨World.block_lt_of_cell? _ _ hc.c0, hl.lab, hl.lgb⟩
  clear hp hn hi hj hc hl hlo hup n40 hbb
  go_enter Try.func20, Try.ntmps20
  go_wp2_with fail
  generalize ((((w.alloc (.cells #[.pointer (some ⟨b, 0, none⟩)] 58)).alloc (.cells #[.int .i64 i] 3)).alloc (.cells #[.int .i64 j] 3)).alloc (.cells #[.func (.func 47) #[] #[], .func (.func 46) #[] #[]] 65)) = w4 at HM HFZ ⊢
  obtain ⟨b7, h7⟩ : ∃ x, x = w.heap.size + 1 + 1 + 1 := ⟨_, rfl⟩
  obtain ⟨b6, h6⟩ : ∃ x, x = w.heap.size + 1 + 1 := ⟨_, rfl⟩
  obtain ⟨b5, h5⟩ : ∃ x, x = w.heap.size + 1 := ⟨_, rfl⟩
  obtain ⟨b4, h4⟩ : ∃ x, x = w.heap.size := ⟨_, rfl⟩
  have HBS : Hid (w.heap.size ≤ b4 ∧ b4 < b5 ∧ b5 < b6 ∧ b6 < b7) := Lib.hid (by omega)
  have HW0 := Lib.hid (show w.heap.size = b4 from h4.symm)
  simp only [← h7] at HM ⊢
  simp only [← h6] at HM HFZ ⊢
  simp only [← h5] at HM HFZ ⊢
  simp only [← h4] at ⊢
  rw [← h4] at HM
  clear h4 h5 h6 h7
  have HBB : Hid (b < b4 ∧ ab < b4 ∧ gb < b4) := Lib.hid (by rw [← HW0.out]; exact HBW.out)
  refine wp_scope_straight ?_
  go_upto_region 1 with (fail)
  have HM1 := Lib.hid (HM.out.grow (Below.refl _ w4).drew)
  have HF1 : Hid (w4.drew.frozen? ⟨b5, 0, none⟩ = false ∧ w4.drew.frozen? ⟨b6, 0, none⟩ = false) := HFZ
  have hC : (fun W => W.cell? ⟨b5, 0, none⟩ = some (.int .i64 i) ∧ W.cell? ⟨b6, 0, none⟩ = some (.int .i64 j)) w4.drew := ⟨HM1.out.h5, HM1.out.h6⟩
  clear HM HFZ
  generalize hW0 : w4.drew = w5 at HM1 HF1 hC
  refine Lim.regC' (fun W => W.cell? ⟨b5, 0, none⟩ = some (.int .i64 i) ∧ W.cell? ⟨b6, 0, none⟩ = some (.int .i64 j)) [6, 7] #[false, false, false, false, false, false, false, false] (by kernel_rfl) rfl ?_
  rw [hW0]; clear hW0
  refine Lim.stepR 0 (fun _ => trivial) rfl (by kernel_rfl) (fun _ _ _ _ h => h) hC rfl ?_; apply Exists.intro; refine ⟨?_, ?_⟩
  · rintro w ⟨r1, r2⟩; go_simp; try with_reducible rfl
  simp only [Act.put, List.setIfInBounds_toArray, List.set_cons_succ, List.set_cons_zero]
  refine Lim.stepR 1 (fun _ => trivial) rfl (by kernel_rfl) (fun _ _ _ _ h => h) hC rfl ?_; apply Exists.intro; refine ⟨?_, ?_⟩
  · rintro w ⟨r1, r2⟩; go_simp; try with_reducible rfl
  simp only [Act.put, List.setIfInBounds_toArray, List.set_cons_succ, List.set_cons_zero]
  refine Lim.stepR 2 (fun _ => trivial) rfl (by kernel_rfl) (fun _ _ _ _ h => h) hC rfl ?_; apply Exists.intro; refine ⟨?_, ?_⟩
  · rintro w ⟨r1, r2⟩; go_simp; try with_reducible rfl
  simp only [Act.put, List.setIfInBounds_toArray, List.set_cons_succ, List.set_cons_zero]
  refine Lim.stepR 3 (fun _ => trivial) rfl (by kernel_rfl) (fun _ _ _ _ h => h) hC rfl ?_; apply Exists.intro; refine ⟨?_, ?_⟩
  · rintro w ⟨r1, r2⟩; go_simp; try with_reducible rfl
  simp only [Act.put, List.setIfInBounds_toArray, List.set_cons_succ, List.set_cons_zero]
  have HC1 := Lib.hid hC
  clear hC
  refine Lim.parE [4, 5, 6, 7] (fun done a W => ∃ x16 x17, a = { tmps := #[.pointer (some ⟨b, 0, none⟩), .int .i64 i, .int .i64 j, .agg #[.func (.func 47) #[] #[], .func (.func 46) #[] #[]], .pointer (some ⟨b4, 0, none⟩), .pointer (some ⟨b5, 0, none⟩), .pointer (some ⟨b6, 0, none⟩), .pointer (some ⟨b7, 0, none⟩), .bool false, undef, undef, undef, .int .i64 i, .int .i64 j, .int .i64 lo, .int .i64 i, x16, x17, undef, undef, undef, undef, undef, undef, undef, undef, undef, undef, undef, undef], defers := [] } ∧ SeS_worst w b n ac gc i j lo up b4 b5 b6 b7 ab ao gb go p done x16 x17 W) (fun _ => trivial) (by kernel_rfl) rfl ?hC ?step ?fin ⟨_, _, rfl, ⟨by simpa using HM1.out, HF1.out, fun h => (by cases h), fun h => (by cases h), fun h => (by cases h)⟩⟩
  case hC =>
    rintro done a W ⟨x16, x17, rfl, HS⟩ hE
    have h := HS.m
    rw [hE 6 (by simp), hE 7 (by simp)] at h
    exact ⟨by simpa using h.h5, by simpa using h.h6⟩
  case step =>
    intro o1 o ho1 ho done a W hd hdep hS K hK
    obtain ⟨x16, x17, rfl, HS⟩ := hS
    have hbs : w.heap.size ≤ b5 ∧ b4 < b5 ∧ b5 < b6 ∧ b6 < b7 ∧ b < b5 ∧ ab < b5 ∧ gb < b5 := by have h1 := HBS.out; have h2 := HBB.out; omega
    simp only [List.mem_cons, List.not_mem_nil, or_false] at ho1
    rcases ho1 with rfl | rfl | rfl | rfl
    · cases ho
      have h7 : done 7 = false := by
        cases e : done 7 with
        | false => rfl
        | true => have := (HS.w7 e).1; rw [hd] at this; cases this
      have g6 := HS.m.h6
      rw [h7] at g6
      have g6' : W.cell? ⟨b6, 0, none⟩ = some (.int .i64 j) := by simpa using g6
      clear hdep g6
      go_simp
      refine hK _ _ ?_
      exact ⟨_, _, rfl, ⟨by simpa using HS.m, HS.f, fun _ => rfl, fun h => by simpa using HS.d5 (by simpa using h), fun h => by have h := HS.w7 (by simpa using h); simpa using h.2⟩⟩
    · cases ho
      have h4 := hdep 4 (by kernel_rfl) (by simp)
      obtain rfl := HS.d4 h4
      clear hdep
      go_simp
      refine hK _ _ ?_
      exact ⟨_, _, rfl, ⟨by simpa using HS.m, HS.f, fun h => rfl, fun _ => rfl, fun h => by have h := HS.w7 (by simpa using h); simp [h.1, h.2.2]⟩⟩
    · cases ho
      have h7 : done 7 = false := by
        cases e : done 7 with
        | false => rfl
        | true => have := (HS.w7 e).2.2; rw [hd] at this; cases this
      have hm := HS.m
      rw [hd, h7] at hm
      have hm2 : SeM_worst w b n ac gc i j b4 b5 b6 b7 ab ao gb go p W := by simpa using hm
      have g5 := hm2.h5
      have f5 := HS.f.1
      clear hdep hm
      go_simp
      refine hK _ _ ?_
      exact ⟨_, _, rfl, ⟨by simp only [h7]; simpa using hm2.put5 lo hbs, ⟨by rw [World.frozen?_setCell]; exact HS.f.1, by rw [World.frozen?_setCell]; exact HS.f.2⟩, fun h => by simpa using HS.d4 (by simpa using h), fun h => by simpa using HS.d5 (by simpa using h), fun h => absurd (show done 7 = true by simpa using h) (by rw [h7]; decide)⟩⟩
    · cases ho
      have h5 := hdep 5 (by kernel_rfl) (by simp)
      have h4 := hdep 4 (by kernel_rfl) (by simp)
      have h6 := hdep 6 (by kernel_rfl) (by simp)
      obtain rfl := HS.d5 h5
      have hm := HS.m
      rw [hd, h6] at hm
      have hm2 : SeM_worst w b n ac gc lo j b4 b5 b6 b7 ab ao gb go p W := by simpa using hm
      have g6 := hm2.h6
      have f6 := HS.f.2
      clear hdep hm
      go_simp
      refine hK _ _ ?_
      exact ⟨_, _, rfl, ⟨by simp only [h6]; simpa using hm2.put6 up hbs, ⟨by rw [World.frozen?_setCell]; exact HS.f.1, by rw [World.frozen?_setCell]; exact HS.f.2⟩, fun h => by simpa using HS.d4 (by simpa using h), fun h => rfl, fun h => by simp [h4, h5, h6]⟩⟩
  case fin =>
  rintro done a w6 hall ⟨x16, x17, rfl, HS⟩
  obtain rfl := HS.d4 (hall 4 (by simp))
  obtain rfl := HS.d5 (hall 5 (by simp))
  have hm := HS.m
  rw [hall 6 (by simp), hall 7 (by simp)] at hm
  have HM2 : Hid (SeM_worst w b n ac gc lo up b4 b5 b6 b7 ab ao gb go p w6) := Lib.hid (by simpa using hm)
  clear hall HS hm HM1 HF1 HC1 e1 e2
  have g5 := HM2.out.h5
  have hlo1 : (lo : Int) < 1000 := by have := HLU.out; omega
  go_wp2_with fail
  refine wp_label ?_
  go_wp2_with fail
  clear g5
  go_loopw [10, 11] (fun c v W => ∃ k : Nat, lo < k ∧ k ≤ up + 1 ∧ c = .bool true ∧ v = .int .i64 k ∧ Hid (∀ x, lo < x → x < k → p.short false true lo up x < 0) ∧ Hid (SeM_worst w b n ac gc lo up b4 b5 b6 b7 ab ao gb go p W)) (fun _ v _ => up - (intOf v).toNat)
  case atStart => exact ⟨lo + 1, by omega, by have := HLU.out; omega, rfl, by go_num, Lib.hid (fun x h1 h2 => by omega), HM2⟩
  case round =>
    clear HM2
    obtain ⟨k, hk1, hk2, rfl, rfl, HI, HM⟩ := hrel
    have g6 := HM.out.h6
    have hk9 : (k : Int) < 1000 := by have := HLU.out; omega
    by_cases hlt : k < up
    · have hlt1 : (k : Int) < (up : Int) := by omega
      go_wp2_with fail
      clear g6
      refine (hides_worst HP.out.1 HP.out.2.1 hk1 hlt (by have := HLU.out; omega) HM.out.c HM.out.l HM.out.h4 HM.out.h5 HM.out.h6 HM.out.h7 HM.out.h8).mono ?_
      rintro e w7 ⟨rfl, hb⟩
      obtain ⟨z, hz⟩ : ∃ z, decide (0 ≤ p.short false true lo up k) = z := ⟨_, rfl⟩
      rw [hz]
      have HZ := Lib.hid hz
      have HM3 := Lib.hid (HM.out.grow hb)
      clear hb hz HM
      cases z with
      | true =>
        have HX : Hid (p.sees false true i j = false) := Lib.hid (by
          have h1 := of_decide_eq_true HZ.out
          obtain ⟨-, -, -, e1, e2⟩ := HLU.out
          unfold Pf.sees
          rw [← e1, ← e2]
          cases hh2 : p.open false true lo up with
          | false => rfl
          | true => have := open_iff.1 hh2 k hk1 hlt; omega)
        go_wp2_with fail
        try rw [Exit.noGoto_ret]
        go_ret
        exact ⟨by rw [HX.out]; rfl, HM3.out.be⟩
      | false =>
        go_wp2_with fail
        go_roundw
        case rel => exact ⟨k + 1, by omega, by omega, rfl, by go_num, Lib.hid (fun x h1 h2 => by
          by_cases e : x = k
          · subst e; have := of_decide_eq_false HZ.out; omega
          · exact HI.out x h1 (by omega)), HM3⟩
        case measure => simp [intOf]; omega
    · have hlt1 : ¬ (k : Int) < (up : Int) := by omega
      have HX : Hid (p.sees false true i j = true) := Lib.hid (by
        obtain ⟨-, -, -, e1, e2⟩ := HLU.out
        unfold Pf.sees
        rw [← e1, ← e2, open_iff]
        exact fun x h1 h2 => HI.out x h1 (by omega))
      go_wp2_with fail
      try rw [Exit.noGoto_ret]
      go_ret
      exact ⟨by rw [HX.out]; rfl, HM.out.be⟩
set_option maxRecDepth 20000 in
set_option maxHeartbeats 1000000 in
theorem hides_best {p : Pf} {b n ab ao ac gb go gc i j k b4 b5 b6 b7 : Nat} {w : World} (hp : p.Ok) (hn : n = p.n) (hik : i < k) (hkj : k < j) (hj : j < n) (hc : PfC w b p (.slice (some ⟨ab, ao, none⟩) n ac) (.slice (some ⟨gb, go, none⟩) n gc)) (hl : PfL w.heap.size w p ab ao ac gb go gc)
    (h4 : w.cell? ⟨b4, 0, none⟩ = some (.pointer (some ⟨b, 0, none⟩))) (h5 : w.cell? ⟨b5, 0, none⟩ = some (.int .i64 i)) (h6 : w.cell? ⟨b6, 0, none⟩ = some (.int .i64 j)) (h7 : w.cell? ⟨b7, 0, none⟩ = some (.func (.func 46) #[] #[])) (h8 : w.cell? ⟨b7, 1, none⟩ = some (.func (.func 47) #[] #[])) :
    Calls Try.prog 44 #[.int .i64 k, .pointer (some ⟨b4, 0, none⟩), .pointer (some ⟨b5, 0, none⟩), .pointer (some ⟨b6, 0, none⟩), .pointer (some ⟨b7, 0, none⟩)] w fun e w' => e = .returned (.bool (decide (0 ≤ p.short true false i j k))) ∧ Below w.heap.size w w' := by
  have HS := Lib.hid (short_best hp hn hik hkj hj hc hl)
  clear hp hn hik hkj hj hc hl
  go_enter Try.func44, Try.ntmps44
  go_wp2_with fail
  clear h4 h5 h6 h7 h8
  refine HS.out.mono ?_
  rintro e w1 ⟨rfl, hb⟩
  obtain ⟨x, hx⟩ : ∃ x, x = p.short true false i j k := ⟨_, rfl⟩
  rw [← hx]
  have HB := Lib.hid hb
  have HX := Lib.hid hx
  clear hb hx HS
  go_wp2
  go_ret
  exact ⟨by rw [← HX.out]; rfl, HB.out⟩
/-- what sees keeps -/
structure SeM_best (w : World) (b n ac gc i j b4 b5 b6 b7 ab ao gb go : Nat) (p : Pf) (W : World) : Prop where
  be : Below w.heap.size w W
  c : PfC W b p (.slice (some ⟨ab, ao, none⟩) n ac) (.slice (some ⟨gb, go, none⟩) n gc)
  l : PfL W.heap.size W p ab ao ac gb go gc
  h4 : W.cell? ⟨b4, 0, none⟩ = some (.pointer (some ⟨b, 0, none⟩))
  h5 : W.cell? ⟨b5, 0, none⟩ = some (.int .i64 i)
  h6 : W.cell? ⟨b6, 0, none⟩ = some (.int .i64 j)
  h7 : W.cell? ⟨b7, 0, none⟩ = some (.func (.func 46) #[] #[])
  h8 : W.cell? ⟨b7, 1, none⟩ = some (.func (.func 47) #[] #[])
theorem SeM_best.grow {w : World} {b n ac gc i j b4 b5 b6 b7 ab ao gb go : Nat} {p : Pf} {W W' : World} (H : SeM_best w b n ac gc i j b4 b5 b6 b7 ab ao gb go p W) (hb : Below W.heap.size W W') : SeM_best w b n ac gc i j b4 b5 b6 b7 ab ao gb go p W' :=
  ⟨H.be.trans (hb.mono H.be.size), H.c.grow hb, (H.l.grow hb).mono hb.size, hb.on H.h4, hb.on H.h5, hb.on H.h6, hb.on H.h7, hb.on H.h8⟩
theorem SeM_best.put5 {w : World} {b n ac gc i j b4 b5 b6 b7 ab ao gb go : Nat} {p : Pf} {W : World} (H : SeM_best w b n ac gc i j b4 b5 b6 b7 ab ao gb go p W) (lo : Nat) (hb : w.heap.size ≤ b5 ∧ b4 < b5 ∧ b5 < b6 ∧ b6 < b7 ∧ b < b5 ∧ ab < b5 ∧ gb < b5) :
    SeM_best w b n ac gc lo j b4 b5 b6 b7 ab ao gb go p (W.setCell ⟨b5, 0, none⟩ (.int .i64 lo)) := by
  have off : ∀ (r o : Nat) (u : Value), r ≠ b5 → W.cell? ⟨r, o, none⟩ = some u → (W.setCell ⟨b5, 0, none⟩ (.int .i64 lo)).cell? ⟨r, o, none⟩ = some u := fun r o u h1 h => by
    rw [setCell_farP _ _ (Ne.symm h1)]; exact h
  have hsz : (W.setCell ⟨b5, 0, none⟩ (.int .i64 lo)).heap.size = W.heap.size := by simp [World.setCell]
  have self : (W.setCell ⟨b5, 0, none⟩ (.int .i64 lo)).cell? ⟨b5, 0, none⟩ = some (.int .i64 lo) := World.cell?_setCell_same' _ _ _ (by rw [H.h5]; rfl)
  exact ⟨H.be.setCell (p := ⟨b5, 0, none⟩) (by show w.heap.size ≤ b5; omega) _, ⟨off _ _ _ (by omega) H.c.c0, off _ _ _ (by omega) H.c.c1, off _ _ _ (by omega) H.c.c2, off _ _ _ (by omega) H.c.c3, off _ _ _ (by omega) H.c.c4⟩,
    ⟨by rw [hsz]; exact H.l.lab, by rw [hsz]; exact H.l.lgb, fun x hx => off _ _ _ (by omega) (H.l.ca x hx), fun x hx => ⟨off _ _ _ (by omega) (H.l.cg x hx).1, off _ _ _ (by omega) (H.l.cg x hx).2⟩⟩,
    off _ _ _ (by omega) H.h4, self, off _ _ _ (by omega) H.h6, off _ _ _ (by omega) H.h7, off _ _ _ (by omega) H.h8⟩
theorem SeM_best.put6 {w : World} {b n ac gc i j b4 b5 b6 b7 ab ao gb go : Nat} {p : Pf} {W : World} (H : SeM_best w b n ac gc i j b4 b5 b6 b7 ab ao gb go p W) (up : Nat) (hb : w.heap.size ≤ b5 ∧ b4 < b5 ∧ b5 < b6 ∧ b6 < b7 ∧ b < b5 ∧ ab < b5 ∧ gb < b5) :
    SeM_best w b n ac gc i up b4 b5 b6 b7 ab ao gb go p (W.setCell ⟨b6, 0, none⟩ (.int .i64 up)) := by
  have off : ∀ (r o : Nat) (u : Value), r ≠ b6 → W.cell? ⟨r, o, none⟩ = some u → (W.setCell ⟨b6, 0, none⟩ (.int .i64 up)).cell? ⟨r, o, none⟩ = some u := fun r o u h1 h => by
    rw [setCell_farP _ _ (Ne.symm h1)]; exact h
  have hsz : (W.setCell ⟨b6, 0, none⟩ (.int .i64 up)).heap.size = W.heap.size := by simp [World.setCell]
  have self : (W.setCell ⟨b6, 0, none⟩ (.int .i64 up)).cell? ⟨b6, 0, none⟩ = some (.int .i64 up) := World.cell?_setCell_same' _ _ _ (by rw [H.h6]; rfl)
  exact ⟨H.be.setCell (p := ⟨b6, 0, none⟩) (by show w.heap.size ≤ b6; omega) _, ⟨off _ _ _ (by omega) H.c.c0, off _ _ _ (by omega) H.c.c1, off _ _ _ (by omega) H.c.c2, off _ _ _ (by omega) H.c.c3, off _ _ _ (by omega) H.c.c4⟩,
    ⟨by rw [hsz]; exact H.l.lab, by rw [hsz]; exact H.l.lgb, fun x hx => off _ _ _ (by omega) (H.l.ca x hx), fun x hx => ⟨off _ _ _ (by omega) (H.l.cg x hx).1, off _ _ _ (by omega) (H.l.cg x hx).2⟩⟩,
    off _ _ _ (by omega) H.h4, off _ _ _ (by omega) H.h5, self, off _ _ _ (by omega) H.h7, off _ _ _ (by omega) H.h8⟩
/-- what is done of the two assignments -/
structure SeS_best (w : World) (b n ac gc i j lo up b4 b5 b6 b7 ab ao gb go : Nat) (p : Pf) (done : Nat → Bool) (x16 x17 : Value) (W : World) : Prop where
  m : SeM_best w b n ac gc (if done 6 = true then lo else i) (if done 7 = true then up else j) b4 b5 b6 b7 ab ao gb go p W
  f : W.frozen? ⟨b5, 0, none⟩ = false ∧ W.frozen? ⟨b6, 0, none⟩ = false
  d4 : done 4 = true → x16 = .int .i64 j
  d5 : done 5 = true → x17 = .int .i64 up
  w7 : done 7 = true → done 4 = true ∧ done 5 = true ∧ done 6 = true
set_option maxRecDepth 20000 in
set_option maxHeartbeats 2000000 in
theorem sees_best {p : Pf} {b n ab ao ac gb go gc i j : Nat} {w : World} (hp : p.Ok) (hn : n = p.n) (hi : i < n) (hj : j < n) (hc : PfC w b p (.slice (some ⟨ab, ao, none⟩) n ac) (.slice (some ⟨gb, go, none⟩) n gc)) (hl : PfL w.heap.size w p ab ao ac gb go gc) :
    Calls Try.prog 20 #[.pointer (some ⟨b, 0, none⟩), .int .i64 i, .int .i64 j, .agg #[.func (.func 46) #[] #[], .func (.func 47) #[] #[]]] w fun e w' => e = .returned (.bool (p.sees true false i j)) ∧ Below w.heap.size w w' := by
  have HP := Lib.hid (And.intro hp (And.intro hn (And.intro hi hj)))
  have n40 : n ≤ 40 := by rw [hn]; exact hp.n40
  obtain ⟨lo, hlo⟩ : ∃ x, x = min i j := ⟨_, rfl⟩
  obtain ⟨up, hup⟩ : ∃ x, x = max i j := ⟨_, rfl⟩
  have e1 : (if j < i then (j : Int) else (i : Int)) = (lo : Int) := by split <;> omega
  have e2 : (if i < j then (j : Int) else (i : Int)) = (up : Int) := by split <;> omega
  have HLU : Hid (lo ≤ up ∧ up < n ∧ n ≤ 40 ∧ lo = min i j ∧ up = max i j) := Lib.hid (by omega)
  have hbb : Below w.heap.size w (((((w.alloc (.cells #[.pointer (some ⟨b, 0, none⟩)] 58)).alloc (.cells #[.int .i64 i] 3)).alloc (.cells #[.int .i64 j] 3)).alloc (.cells #[.func (.func 46) #[] #[], .func (.func 47) #[] #[]] 65))) := ((((Below.refl _ w).alloc (Nat.le_refl _) _).alloc (by simp) _).alloc (by simp; omega) _).alloc (by simp; omega) _
  have HM : Hid (SeM_best w b n ac gc i j w.heap.size (w.heap.size + 1) (w.heap.size + 1 + 1) (w.heap.size + 1 + 1 + 1) ab ao gb go p (((((w.alloc (.cells #[.pointer (some ⟨b, 0, none⟩)] 58)).alloc (.cells #[.int .i64 i] 3)).alloc (.cells #[.int .i64 j] 3)).alloc (.cells #[.func (.func 46) #[] #[], .func (.func 47) #[] #[]] 65)))) := Lib.hid
    ⟨hbb, hc.grow hbb, (hl.grow hbb).mono hbb.size, by simp [go_sem], by simp [go_sem], by simp [go_sem], by simp [go_sem], by simp [go_sem]⟩
  have HFZ : Hid ((((((w.alloc (.cells #[.pointer (some ⟨b, 0, none⟩)] 58)).alloc (.cells #[.int .i64 i] 3)).alloc (.cells #[.int .i64 j] 3)).alloc (.cells #[.func (.func 46) #[] #[], .func (.func 47) #[] #[]] 65))).frozen? ⟨w.heap.size + 1, 0, none⟩ = false ∧ (((((w.alloc (.cells #[.pointer (some ⟨b, 0, none⟩)] 58)).alloc (.cells #[.int .i64 i] 3)).alloc (.cells #[.int .i64 j] 3)).alloc (.cells #[.func (.func 46) #[] #[], .func (.func 47) #[] #[]] 65))).frozen? ⟨w.heap.size + 1 + 1, 0, none⟩ = false) := Lib.hid ⟨by simp [go_sem], by simp [go_sem]⟩
  have HBW : Hid (b < w.heap.size ∧ ab < w.heap.size ∧ gb < w.heap.size) := Lib.hid ⟨World.block_lt_of_cell? _ _ hc.c0, hl.lab, hl.lgb⟩
  clear hp hn hi hj hc hl hlo hup n40 hbb
  go_enter Try.func20, Try.ntmps20
  go_wp2_with fail
  generalize ((((w.alloc (.cells #[.pointer (some ⟨b, 0, none⟩)] 58)).alloc (.cells #[.int .i64 i] 3)).alloc (.cells #[.int .i64 j] 3)).alloc (.cells #[.func (.func 46) #[] #[], .func (.func 47) #[] #[]] 65)) = w4 at HM HFZ ⊢
  obtain ⟨b7, h7⟩ : ∃ x, x = w.heap.size + 1 + 1 + 1 := ⟨_, rfl⟩
  obtain ⟨b6, h6⟩ : ∃ x, x = w.heap.size + 1 + 1 := ⟨_, rfl⟩
  obtain ⟨b5, h5⟩ : ∃ x, x = w.heap.size + 1 := ⟨_, rfl⟩
  obtain ⟨b4, h4⟩ : ∃ x, x = w.heap.size := ⟨_, rfl⟩
  have HBS : Hid (w.heap.size ≤ b4 ∧ b4 < b5 ∧ b5 < b6 ∧ b6 < b7) := Lib.hid (by omega)
  have HW0 := Lib.hid (show w.heap.size = b4 from h4.symm)
  simp only [← h7] at HM ⊢
  simp only [← h6] at HM HFZ ⊢
  simp only [← h5] at HM HFZ ⊢
  simp only [← h4] at ⊢
  rw [← h4] at HM
  clear h4 h5 h6 h7
  have HBB : Hid (b < b4 ∧ ab < b4 ∧ gb < b4) := Lib.hid (by rw [← HW0.out]; exact HBW.out)
  refine wp_scope_straight ?_
  go_upto_region 1 with (fail)
  have HM1 := Lib.hid (HM.out.grow (Below.refl _ w4).drew)
  have HF1 : Hid (w4.drew.frozen? ⟨b5, 0, none⟩ = false ∧ w4.drew.frozen? ⟨b6, 0, none⟩ = false) := HFZ
  have hC : (fun W => W.cell? ⟨b5, 0, none⟩ = some (.int .i64 i) ∧ W.cell? ⟨b6, 0, none⟩ = some (.int .i64 j)) w4.drew := ⟨HM1.out.h5, HM1.out.h6⟩
  clear HM HFZ
  generalize hW0 : w4.drew = w5 at HM1 HF1 hC
  refine Lim.regC' (fun W => W.cell? ⟨b5, 0, none⟩ = some (.int .i64 i) ∧ W.cell? ⟨b6, 0, none⟩ = some (.int .i64 j)) [6, 7] #[false, false, false, false, false, false, false, false] (by kernel_rfl) rfl ?_
  rw [hW0]; clear hW0
  refine Lim.stepR 0 (fun _ => trivial) rfl (by kernel_rfl) (fun _ _ _ _ h => h) hC rfl ?_; apply Exists.intro; refine ⟨?_, ?_⟩
  · rintro w ⟨r1, r2⟩; go_simp; try with_reducible rfl
  simp only [Act.put, List.setIfInBounds_toArray, List.set_cons_succ, List.set_cons_zero]
  refine Lim.stepR 1 (fun _ => trivial) rfl (by kernel_rfl) (fun _ _ _ _ h => h) hC rfl ?_; apply Exists.intro; refine ⟨?_, ?_⟩
  · rintro w ⟨r1, r2⟩; go_simp; try with_reducible rfl
  simp only [Act.put, List.setIfInBounds_toArray, List.set_cons_succ, List.set_cons_zero]
  refine Lim.stepR 2 (fun _ => trivial) rfl (by kernel_rfl) (fun _ _ _ _ h => h) hC rfl ?_; apply Exists.intro; refine ⟨?_, ?_⟩
  · rintro w ⟨r1, r2⟩; go_simp; try with_reducible rfl
  simp only [Act.put, List.setIfInBounds_toArray, List.set_cons_succ, List.set_cons_zero]
  refine Lim.stepR 3 (fun _ => trivial) rfl (by kernel_rfl) (fun _ _ _ _ h => h) hC rfl ?_; apply Exists.intro; refine ⟨?_, ?_⟩
  · rintro w ⟨r1, r2⟩; go_simp; try with_reducible rfl
  simp only [Act.put, List.setIfInBounds_toArray, List.set_cons_succ, List.set_cons_zero]
  have HC1 := Lib.hid hC
  clear hC
  refine Lim.parE [4, 5, 6, 7] (fun done a W => ∃ x16 x17, a = { tmps := #[.pointer (some ⟨b, 0, none⟩), .int .i64 i, .int .i64 j, .agg #[.func (.func 46) #[] #[], .func (.func 47) #[] #[]], .pointer (some ⟨b4, 0, none⟩), .pointer (some ⟨b5, 0, none⟩), .pointer (some ⟨b6, 0, none⟩), .pointer (some ⟨b7, 0, none⟩), .bool false, undef, undef, undef, .int .i64 i, .int .i64 j, .int .i64 lo, .int .i64 i, x16, x17, undef, undef, undef, undef, undef, undef, undef, undef, undef, undef, undef, undef], defers := [] } ∧ SeS_best w b n ac gc i j lo up b4 b5 b6 b7 ab ao gb go p done x16 x17 W) (fun _ => trivial) (by kernel_rfl) rfl ?hC ?step ?fin ⟨_, _, rfl, ⟨by simpa using HM1.out, HF1.out, fun h => (by cases h), fun h => (by cases h), fun h => (by cases h)⟩⟩
  case hC =>
    rintro done a W ⟨x16, x17, rfl, HS⟩ hE
    have h := HS.m
    rw [hE 6 (by simp), hE 7 (by simp)] at h
    exact ⟨by simpa using h.h5, by simpa using h.h6⟩
  case step =>
    intro o1 o ho1 ho done a W hd hdep hS K hK
    obtain ⟨x16, x17, rfl, HS⟩ := hS
    have hbs : w.heap.size ≤ b5 ∧ b4 < b5 ∧ b5 < b6 ∧ b6 < b7 ∧ b < b5 ∧ ab < b5 ∧ gb < b5 := by have h1 := HBS.out; have h2 := HBB.out; omega
    simp only [List.mem_cons, List.not_mem_nil, or_false] at ho1
    rcases ho1 with rfl | rfl | rfl | rfl
    · cases ho
      have h7 : done 7 = false := by
        cases e : done 7 with
        | false => rfl
        | true => have := (HS.w7 e).1; rw [hd] at this; cases this
      have g6 := HS.m.h6
      rw [h7] at g6
      have g6' : W.cell? ⟨b6, 0, none⟩ = some (.int .i64 j) := by simpa using g6
      clear hdep g6
      go_simp
      refine hK _ _ ?_
      exact ⟨_, _, rfl, ⟨by simpa using HS.m, HS.f, fun _ => rfl, fun h => by simpa using HS.d5 (by simpa using h), fun h => by have h := HS.w7 (by simpa using h); simpa using h.2⟩⟩
    · cases ho
      have h4 := hdep 4 (by kernel_rfl) (by simp)
      obtain rfl := HS.d4 h4
      clear hdep
      go_simp
      refine hK _ _ ?_
      exact ⟨_, _, rfl, ⟨by simpa using HS.m, HS.f, fun h => rfl, fun _ => rfl, fun h => by have h := HS.w7 (by simpa using h); simp [h.1, h.2.2]⟩⟩
    · cases ho
      have h7 : done 7 = false := by
        cases e : done 7 with
        | false => rfl
        | true => have := (HS.w7 e).2.2; rw [hd] at this; cases this
      have hm := HS.m
      rw [hd, h7] at hm
      have hm2 : SeM_best w b n ac gc i j b4 b5 b6 b7 ab ao gb go p W := by simpa using hm
      have g5 := hm2.h5
      have f5 := HS.f.1
      clear hdep hm
      go_simp
      refine hK _ _ ?_
      exact ⟨_, _, rfl, ⟨by simp only [h7]; simpa using hm2.put5 lo hbs, ⟨by rw [World.frozen?_setCell]; exact HS.f.1, by rw [World.frozen?_setCell]; exact HS.f.2⟩, fun h => by simpa using HS.d4 (by simpa using h), fun h => by simpa using HS.d5 (by simpa using h), fun h => absurd (show done 7 = true by simpa using h) (by rw [h7]; decide)⟩⟩
    · cases ho
      have h5 := hdep 5 (by kernel_rfl) (by simp)
      have h4 := hdep 4 (by kernel_rfl) (by simp)
      have h6 := hdep 6 (by kernel_rfl) (by simp)
      obtain rfl := HS.d5 h5
      have hm := HS.m
      rw [hd, h6] at hm
      have hm2 : SeM_best w b n ac gc lo j b4 b5 b6 b7 ab ao gb go p W := by simpa using hm
      have g6 := hm2.h6
      have f6 := HS.f.2
      clear hdep hm
      go_simp
      refine hK _ _ ?_
      exact ⟨_, _, rfl, ⟨by simp only [h6]; simpa using hm2.put6 up hbs, ⟨by rw [World.frozen?_setCell]; exact HS.f.1, by rw [World.frozen?_setCell]; exact HS.f.2⟩, fun h => by simpa using HS.d4 (by simpa using h), fun h => rfl, fun h => by simp [h4, h5, h6]⟩⟩
  case fin =>
  rintro done a w6 hall ⟨x16, x17, rfl, HS⟩
  obtain rfl := HS.d4 (hall 4 (by simp))
  obtain rfl := HS.d5 (hall 5 (by simp))
  have hm := HS.m
  rw [hall 6 (by simp), hall 7 (by simp)] at hm
  have HM2 : Hid (SeM_best w b n ac gc lo up b4 b5 b6 b7 ab ao gb go p w6) := Lib.hid (by simpa using hm)
  clear hall HS hm HM1 HF1 HC1 e1 e2
  have g5 := HM2.out.h5
  have hlo1 : (lo : Int) < 1000 := by have := HLU.out; omega
  go_wp2_with fail
  refine wp_label ?_
  go_wp2_with fail
  clear g5
  go_loopw [10, 11] (fun c v W => ∃ k : Nat, lo < k ∧ k ≤ up + 1 ∧ c = .bool true ∧ v = .int .i64 k ∧ Hid (∀ x, lo < x → x < k → p.short true false lo up x < 0) ∧ Hid (SeM_best w b n ac gc lo up b4 b5 b6 b7 ab ao gb go p W)) (fun _ v _ => up - (intOf v).toNat)
  case atStart => exact ⟨lo + 1, by omega, by have := HLU.out; omega, rfl, by go_num, Lib.hid (fun x h1 h2 => by omega), HM2⟩
  case round =>
    clear HM2
    obtain ⟨k, hk1, hk2, rfl, rfl, HI, HM⟩ := hrel
    have g6 := HM.out.h6
    have hk9 : (k : Int) < 1000 := by have := HLU.out; omega
    by_cases hlt : k < up
    · have hlt1 : (k : Int) < (up : Int) := by omega
      go_wp2_with fail
      clear g6
      refine (hides_best HP.out.1 HP.out.2.1 hk1 hlt (by have := HLU.out; omega) HM.out.c HM.out.l HM.out.h4 HM.out.h5 HM.out.h6 HM.out.h7 HM.out.h8).mono ?_
      rintro e w7 ⟨rfl, hb⟩
      obtain ⟨z, hz⟩ : ∃ z, decide (0 ≤ p.short true false lo up k) = z := ⟨_, rfl⟩
      rw [hz]
      have HZ := Lib.hid hz
      have HM3 := Lib.hid (HM.out.grow hb)
      clear hb hz HM
      cases z with
      | true =>
        have HX : Hid (p.sees true false i j = false) := Lib.hid (by
          have h1 := of_decide_eq_true HZ.out
          obtain ⟨-, -, -, e1, e2⟩ := HLU.out
          unfold Pf.sees
          rw [← e1, ← e2]
          cases hh2 : p.open true false lo up with
          | false => rfl
          | true => have := open_iff.1 hh2 k hk1 hlt; omega)
        go_wp2_with fail
        try rw [Exit.noGoto_ret]
        go_ret
        exact ⟨by rw [HX.out]; rfl, HM3.out.be⟩
      | false =>
        go_wp2_with fail
        go_roundw
        case rel => exact ⟨k + 1, by omega, by omega, rfl, by go_num, Lib.hid (fun x h1 h2 => by
          by_cases e : x = k
          · subst e; have := of_decide_eq_false HZ.out; omega
          · exact HI.out x h1 (by omega)), HM3⟩
        case measure => simp [intOf]; omega
    · have hlt1 : ¬ (k : Int) < (up : Int) := by omega
      have HX : Hid (p.sees true false i j = true) := Lib.hid (by
        obtain ⟨-, -, -, e1, e2⟩ := HLU.out
        unfold Pf.sees
        rw [← e1, ← e2, open_iff]
        exact fun x h1 h2 => HI.out x h1 (by omega))
      go_wp2_with fail
      try rw [Exit.noGoto_ret]
      go_ret
      exact ⟨by rw [HX.out]; rfl, HM.out.be⟩
end Go.Proofs.Ytohjinbgbfggcaa
