/-
  Parts of the proof, in the order in which they build: CoD.
-/
import Derived.OwnWalk
import Derived.Test.YtiacgaplhndlnaaF37
set_option linter.unusedVariables false
set_option linter.unusedSimpArgs false
namespace Go.Proofs.Ytiacgaplhndlnaa
open Go.RowKit Go.Shelf
open Lim


set_option maxHeartbeats 400000 in
theorem rises_nil (w : World) : Calls Try.prog 136 #[.slice none 0 0] w fun e w' => e = .returned (.bool true) ∧ w' = w := by
  go_enter Try.func136, Try.ntmps136
  go_wp2
  go_loop [3] (fun i => i = .int .i64 1) (fun _ => 0)
  case atStart => rfl
  case round =>
    subst hrel
    go_wp2
    go_ret
    exact ⟨rfl, rfl⟩
set_option maxHeartbeats 400000 in
theorem listed_nil {C sn sc : Nat} {sa : Option Addr} (w : World) : Calls Try.prog 86 #[.agg #[.int .i64 C, .slice sa sn sc, .slice none 0 0], .slice none 0 0] w fun e w' => e = .returned (.int .i64 0) ∧ Below w.heap.size w w' := by
  have HB := Lib.hid ((Below.refl _ w).alloc (Nat.le_refl _) (.cells #[.int .i64 C, .slice sa sn sc, .slice none 0 0] 36))
  go_enter Try.func86, Try.ntmps86
  go_wp2_with fail
  refine (none_nil _ _).mono ?_
  rintro e w1 ⟨rfl, rfl⟩
  go_wp2_with fail
  refine (rises_nil _).mono ?_
  rintro e w1 ⟨rfl, rfl⟩
  go_wp2
  go_ret
  exact ⟨rfl, HB.out⟩
set_option maxRecDepth 20000 in
set_option maxHeartbeats 400000 in
theorem marked_nil (w : World) : Calls Try.prog 137 #[.slice none 0 0] w fun e w' => e = .returned (.agg #[.bool false, .bool false, .bool false, .bool false, .bool false, .bool false, .bool false, .bool false, .bool false, .bool false, .bool false, .bool false, .bool false, .bool false]) ∧ Below w.heap.size w w' := by
  go_enter Try.func137, Try.ntmps137
  go_wp2_with fail
  go_loop [8] (fun i => i = .int .i64 0) (fun _ => 0)
  case atStart => rfl
  case round =>
    subst hrel
    go_wp2_with fail
    have hb : Below w.heap.size w ((w.alloc (.cells #[.bool false, .bool false, .bool false, .bool false, .bool false, .bool false, .bool false, .bool false, .bool false, .bool false, .bool false, .bool false, .bool false, .bool false] 108)).alloc (.cells #[.bool false, .bool false, .bool false, .bool false, .bool false, .bool false, .bool false, .bool false, .bool false, .bool false, .bool false, .bool false, .bool false, .bool false] 108)) := ((Below.refl _ w).alloc (Nat.le_refl _) _).alloc (by simp) _
    have hg : ((w.alloc (.cells #[.bool false, .bool false, .bool false, .bool false, .bool false, .bool false, .bool false, .bool false, .bool false, .bool false, .bool false, .bool false, .bool false, .bool false] 108)).alloc (.cells #[.bool false, .bool false, .bool false, .bool false, .bool false, .bool false, .bool false, .bool false, .bool false, .bool false, .bool false, .bool false, .bool false, .bool false] 108)).heap[w.heap.size]? = some (.cells #[.bool false, .bool false, .bool false, .bool false, .bool false, .bool false, .bool false, .bool false, .bool false, .bool false, .bool false, .bool false, .bool false, .bool false] 108 (0, 0)) := by
      rw [((Below.refl _ (w.alloc (.cells #[.bool false, .bool false, .bool false, .bool false, .bool false, .bool false, .bool false, .bool false, .bool false, .bool false, .bool false, .bool false, .bool false, .bool false] 108))).alloc (Nat.le_refl _) (.cells #[.bool false, .bool false, .bool false, .bool false, .bool false, .bool false, .bool false, .bool false, .bool false, .bool false, .bool false, .bool false, .bool false, .bool false] 108)).block w.heap.size (by simp)]
      exact heap_alloc_new w _
    exact bodyPost_ret (results_cell_row rfl _ _ w.heap.size _ _ (0, 0) _ (by rfl) hg Try.underlying108 (by rfl) (by kernel_rfl)) rfl ⟨rfl, hb⟩
/-- a case at work: nothing is refuted, nothing sure; findings F, ranks R -/
structure DeskAt (w : World) (b : Nat) (C : Nat) (sv : Value) (F R : List Int) : Prop where
  lt : b < w.heap.size
  c0 : w.cell? ⟨b, 0, none⟩ = some (.int .i64 C)
  c1 : w.cell? ⟨b, 1, none⟩ = some sv
  rf : ∀ k, k < 14 → w.cell? ⟨b, 3 + k, none⟩ = some (.bool false)
  su : ∀ k, k < 14 → w.cell? ⟨b, 17 + k, none⟩ = some (.bool false)
  fo : ∀ k, k < 14 → w.cell? ⟨b, 31 + k, none⟩ = some (.int .i64 (fdg F k))
  ra : ∀ k, k < 14 → w.cell? ⟨b, 45 + k, none⟩ = some (.int .i64 (fdg R k))
  fz : ∀ k, k < 59 → w.frozen? ⟨b, k, none⟩ = false
theorem DeskAt.on {w w' : World} {b C : Nat} {sv : Value} {F R : List Int} (h : DeskAt w b C sv F R) (hb : Below w.heap.size w w') : DeskAt w' b C sv F R :=
  ⟨Nat.lt_of_lt_of_le h.lt hb.size, hb.on h.c0, hb.on h.c1, fun k hk => hb.on (h.rf k hk), fun k hk => hb.on (h.su k hk), fun k hk => hb.on (h.fo k hk), fun k hk => hb.on (h.ra k hk), fun k hk => (hb.frozen (p := ⟨b, k, none⟩) h.lt).trans (h.fz k hk)⟩
theorem lt14 {P : Nat → Prop} (h0 : P 0) (h1 : P 1) (h2 : P 2) (h3 : P 3) (h4 : P 4) (h5 : P 5) (h6 : P 6) (h7 : P 7) (h8 : P 8) (h9 : P 9) (h10 : P 10) (h11 : P 11) (h12 : P 12) (h13 : P 13) : ∀ k, k < 14 → P k := fun k hk => by
  have : k = 0 ∨ k = 1 ∨ k = 2 ∨ k = 3 ∨ k = 4 ∨ k = 5 ∨ k = 6 ∨ k = 7 ∨ k = 8 ∨ k = 9 ∨ k = 10 ∨ k = 11 ∨ k = 12 ∨ k = 13 := by omega
  rcases this with rfl | rfl | rfl | rfl | rfl | rfl | rfl | rfl | rfl | rfl | rfl | rfl | rfl | rfl <;> assumption
set_option maxRecDepth 20000 in
set_option maxHeartbeats 2000000 in
theorem DeskAt.new {C sn sc : Nat} {sa : Option Addr} (w : World) : DeskAt (w.alloc (.cells #[.int .i64 C, .slice sa sn sc, .slice none 0 0, .bool false, .bool false, .bool false, .bool false, .bool false, .bool false, .bool false, .bool false, .bool false, .bool false, .bool false, .bool false, .bool false, .bool false, .bool false, .bool false, .bool false, .bool false, .bool false, .bool false, .bool false, .bool false, .bool false, .bool false, .bool false, .bool false, .bool false, .bool false, .int .i64 0, .int .i64 0, .int .i64 0, .int .i64 0, .int .i64 0, .int .i64 0, .int .i64 0, .int .i64 0, .int .i64 0, .int .i64 0, .int .i64 0, .int .i64 0, .int .i64 0, .int .i64 0, .int .i64 0, .int .i64 0, .int .i64 0, .int .i64 0, .int .i64 0, .int .i64 0, .int .i64 0, .int .i64 0, .int .i64 0, .int .i64 0, .int .i64 0, .int .i64 0, .int .i64 0, .int .i64 0] 111)) w.heap.size C (.slice sa sn sc) (List.replicate 14 0) (List.replicate 14 0) := by
  have hg := heap_alloc_new w (.cells #[.int .i64 C, .slice sa sn sc, .slice none 0 0, .bool false, .bool false, .bool false, .bool false, .bool false, .bool false, .bool false, .bool false, .bool false, .bool false, .bool false, .bool false, .bool false, .bool false, .bool false, .bool false, .bool false, .bool false, .bool false, .bool false, .bool false, .bool false, .bool false, .bool false, .bool false, .bool false, .bool false, .bool false, .int .i64 0, .int .i64 0, .int .i64 0, .int .i64 0, .int .i64 0, .int .i64 0, .int .i64 0, .int .i64 0, .int .i64 0, .int .i64 0, .int .i64 0, .int .i64 0, .int .i64 0, .int .i64 0, .int .i64 0, .int .i64 0, .int .i64 0, .int .i64 0, .int .i64 0, .int .i64 0, .int .i64 0, .int .i64 0, .int .i64 0, .int .i64 0, .int .i64 0, .int .i64 0, .int .i64 0, .int .i64 0] 111)
  generalize w.alloc (.cells #[.int .i64 C, .slice sa sn sc, .slice none 0 0, .bool false, .bool false, .bool false, .bool false, .bool false, .bool false, .bool false, .bool false, .bool false, .bool false, .bool false, .bool false, .bool false, .bool false, .bool false, .bool false, .bool false, .bool false, .bool false, .bool false, .bool false, .bool false, .bool false, .bool false, .bool false, .bool false, .bool false, .bool false, .int .i64 0, .int .i64 0, .int .i64 0, .int .i64 0, .int .i64 0, .int .i64 0, .int .i64 0, .int .i64 0, .int .i64 0, .int .i64 0, .int .i64 0, .int .i64 0, .int .i64 0, .int .i64 0, .int .i64 0, .int .i64 0, .int .i64 0, .int .i64 0, .int .i64 0, .int .i64 0, .int .i64 0, .int .i64 0, .int .i64 0, .int .i64 0, .int .i64 0, .int .i64 0, .int .i64 0, .int .i64 0] 111) = W at hg
  have hc : ∀ k, W.cell? ⟨w.heap.size, k, none⟩ = (#[.int .i64 C, .slice sa sn sc, .slice none 0 0, .bool false, .bool false, .bool false, .bool false, .bool false, .bool false, .bool false, .bool false, .bool false, .bool false, .bool false, .bool false, .bool false, .bool false, .bool false, .bool false, .bool false, .bool false, .bool false, .bool false, .bool false, .bool false, .bool false, .bool false, .bool false, .bool false, .bool false, .bool false, .int .i64 0, .int .i64 0, .int .i64 0, .int .i64 0, .int .i64 0, .int .i64 0, .int .i64 0, .int .i64 0, .int .i64 0, .int .i64 0, .int .i64 0, .int .i64 0, .int .i64 0, .int .i64 0, .int .i64 0, .int .i64 0, .int .i64 0, .int .i64 0, .int .i64 0, .int .i64 0, .int .i64 0, .int .i64 0, .int .i64 0, .int .i64 0, .int .i64 0, .int .i64 0, .int .i64 0, .int .i64 0])[k]? := fun k => by simp only [World.cell?, hg]; rfl
  refine ⟨(Array.getElem?_eq_some_iff.1 hg).1, hc 0, hc 1, ?_, ?_, ?_, ?_, fun k _ => by simp [World.frozen?, hg]⟩
  · exact lt14 (hc 3) (hc 4) (hc 5) (hc 6) (hc 7) (hc 8) (hc 9) (hc 10) (hc 11) (hc 12) (hc 13) (hc 14) (hc 15) (hc 16)
  · exact lt14 (hc 17) (hc 18) (hc 19) (hc 20) (hc 21) (hc 22) (hc 23) (hc 24) (hc 25) (hc 26) (hc 27) (hc 28) (hc 29) (hc 30)
  · exact lt14 (hc 31) (hc 32) (hc 33) (hc 34) (hc 35) (hc 36) (hc 37) (hc 38) (hc 39) (hc 40) (hc 41) (hc 42) (hc 43) (hc 44)
  · exact lt14 (hc 45) (hc 46) (hc 47) (hc 48) (hc 49) (hc 50) (hc 51) (hc 52) (hc 53) (hc 54) (hc 55) (hc 56) (hc 57) (hc 58)
set_option maxRecDepth 20000 in
set_option maxHeartbeats 2000000 in
theorem begun_any {C sn sc : Nat} {sa : Option Addr} {w : World} (hC : C ≤ 14) : Calls Try.prog 87 #[.agg #[.int .i64 C, .slice sa sn sc, .slice none 0 0], .slice none 0 0, .slice none 0 0] w fun e w' => ∃ b, e = .returned (.pointer (some ⟨b, 0, none⟩)) ∧ w.heap.size ≤ b ∧ Below w.heap.size w w' ∧ DeskAt w' b C (.slice sa sn sc) (List.replicate 14 0) (List.replicate 14 0) := by
  have HB0 := Lib.hid ((Below.refl _ w).alloc (Nat.le_refl _) (.cells #[.int .i64 C, .slice sa sn sc, .slice none 0 0] 36))
  have c0 : (w.alloc (.cells #[.int .i64 C, .slice sa sn sc, .slice none 0 0] 36)).cell? ⟨w.heap.size, 0, none⟩ = some (.int .i64 C) := by simp [go_sem]
  have c1 : (w.alloc (.cells #[.int .i64 C, .slice sa sn sc, .slice none 0 0] 36)).cell? ⟨w.heap.size, 1, none⟩ = some (.slice sa sn sc) := by simp [go_sem]
  have c2 : (w.alloc (.cells #[.int .i64 C, .slice sa sn sc, .slice none 0 0] 36)).cell? ⟨w.heap.size, 2, none⟩ = some (.slice none 0 0) := by simp [go_sem]
  go_enter Try.func87, Try.ntmps87
  generalize hW : w.alloc (.cells #[.int .i64 C, .slice sa sn sc, .slice none 0 0] 36) = w1 at HB0 c0 c1 c2
  go_upto_region 1 with (fail)
  have hC : (fun W => W.cell? ⟨w.heap.size, 0, none⟩ = some (.int .i64 C) ∧ W.cell? ⟨w.heap.size, 1, none⟩ = some (.slice sa sn sc) ∧ W.cell? ⟨w.heap.size, 2, none⟩ = some (.slice none 0 0)) w1.drew := ⟨c0, c1, c2⟩
  have HB1 := Lib.hid HB0.out.drew
  clear c0 c1 c2 HB0
  generalize hW0 : w1.drew = w2 at hC HB1
  refine Lim.regC' (fun W => W.cell? ⟨w.heap.size, 0, none⟩ = some (.int .i64 C) ∧ W.cell? ⟨w.heap.size, 1, none⟩ = some (.slice sa sn sc) ∧ W.cell? ⟨w.heap.size, 2, none⟩ = some (.slice none 0 0)) [] #[false, false, false, false, false, false, false, false] (by kernel_rfl) rfl ?_
  rw [hW0]; clear hW0
  refine Lim.stepR 0 (fun _ => trivial) rfl (by kernel_rfl) (fun _ _ _ _ h => h) hC rfl ?_; apply Exists.intro; refine ⟨?_, ?_⟩
  · rintro w ⟨r0, r1, r2⟩; go_simp; try with_reducible rfl
  simp only [Act.put, List.setIfInBounds_toArray, List.set_cons_succ, List.set_cons_zero]
  refine Lim.stepR 1 (fun _ => trivial) rfl (by kernel_rfl) (fun _ _ _ _ h => h) hC rfl ?_; apply Exists.intro; refine ⟨?_, ?_⟩
  · rintro w ⟨r0, r1, r2⟩; go_simp; try with_reducible rfl
  simp only [Act.put, List.setIfInBounds_toArray, List.set_cons_succ, List.set_cons_zero]
  refine Lim.stepR 3 (fun _ => trivial) rfl (by kernel_rfl) (fun _ _ _ _ h => h) hC rfl ?_; apply Exists.intro; refine ⟨?_, ?_⟩
  · rintro w ⟨r0, r1, r2⟩; go_simp; try with_reducible rfl
  simp only [Act.put, List.setIfInBounds_toArray, List.set_cons_succ, List.set_cons_zero]
  refine Lim.stepE 2 (fun _ => trivial) rfl (by kernel_rfl) rfl (fun K hK => ?_)   -- E call
  go_simp
  refine ⟨rfl, (callsIn_wide.2 (marked_nil _)).mono ?_⟩
  rintro e w3 ⟨rfl, hb⟩
  have HB2 := Lib.hid (HB1.out.trans (hb.mono HB1.out.size))
  have hC2 : (fun W => W.cell? ⟨w.heap.size, 0, none⟩ = some (.int .i64 C) ∧ W.cell? ⟨w.heap.size, 1, none⟩ = some (.slice sa sn sc) ∧ W.cell? ⟨w.heap.size, 2, none⟩ = some (.slice none 0 0)) w3 := ⟨hb.on hC.1, hb.on hC.2.1, hb.on hC.2.2⟩
  refine hK _ _ hC2 ?_
  clear hb hC HB1
  simp only [Act.put, List.setIfInBounds_toArray, List.set_cons_succ, List.set_cons_zero]
  refine Lim.stepE 4 (fun _ => trivial) rfl (by kernel_rfl) rfl (fun K hK => ?_)   -- E call
  go_simp
  refine ⟨rfl, (callsIn_wide.2 (marked_nil _)).mono ?_⟩
  rintro e w4 ⟨rfl, hb⟩
  have HB3 := Lib.hid (HB2.out.trans (hb.mono HB2.out.size))
  have hC3 : (fun W => W.cell? ⟨w.heap.size, 0, none⟩ = some (.int .i64 C) ∧ W.cell? ⟨w.heap.size, 1, none⟩ = some (.slice sa sn sc) ∧ W.cell? ⟨w.heap.size, 2, none⟩ = some (.slice none 0 0)) w4 := ⟨hb.on hC2.1, hb.on hC2.2.1, hb.on hC2.2.2⟩
  refine hK _ _ hC3 ?_
  clear hb hC2 HB2
  simp only [Act.put, List.setIfInBounds_toArray, List.set_cons_succ, List.set_cons_zero]
  refine Lim.stepR 5 (fun _ => trivial) rfl (by kernel_rfl) (fun _ _ _ _ h => h) hC3 rfl ?_; apply Exists.intro; refine ⟨?_, ?_⟩
  · rintro w ⟨r0, r1, r2⟩; go_simp; try with_reducible rfl
  simp only [Act.put, List.setIfInBounds_toArray, List.set_cons_succ, List.set_cons_zero]
  refine Lim.stepE 6 (fun _ => trivial) rfl (by kernel_rfl) rfl (fun K hK => ?_)   -- E box
  go_simp
  have HD := Lib.hid (DeskAt.new (C := C) (sa := sa) (sn := sn) (sc := sc) w4)
  have hb6 := (Below.refl _ w4).alloc (Nat.le_refl _) (.cells #[.int .i64 C, .slice sa sn sc, .slice none 0 0, .bool false, .bool false, .bool false, .bool false, .bool false, .bool false, .bool false, .bool false, .bool false, .bool false, .bool false, .bool false, .bool false, .bool false, .bool false, .bool false, .bool false, .bool false, .bool false, .bool false, .bool false, .bool false, .bool false, .bool false, .bool false, .bool false, .bool false, .bool false, .int .i64 0, .int .i64 0, .int .i64 0, .int .i64 0, .int .i64 0, .int .i64 0, .int .i64 0, .int .i64 0, .int .i64 0, .int .i64 0, .int .i64 0, .int .i64 0, .int .i64 0, .int .i64 0, .int .i64 0, .int .i64 0, .int .i64 0, .int .i64 0, .int .i64 0, .int .i64 0, .int .i64 0, .int .i64 0, .int .i64 0, .int .i64 0, .int .i64 0, .int .i64 0, .int .i64 0, .int .i64 0] 111)
  have HB5 := Lib.hid (HB3.out.trans (hb6.mono HB3.out.size))
  have hC4 : (fun W => W.cell? ⟨w.heap.size, 0, none⟩ = some (.int .i64 C) ∧ W.cell? ⟨w.heap.size, 1, none⟩ = some (.slice sa sn sc) ∧ W.cell? ⟨w.heap.size, 2, none⟩ = some (.slice none 0 0)) (w4.alloc (.cells #[.int .i64 C, .slice sa sn sc, .slice none 0 0, .bool false, .bool false, .bool false, .bool false, .bool false, .bool false, .bool false, .bool false, .bool false, .bool false, .bool false, .bool false, .bool false, .bool false, .bool false, .bool false, .bool false, .bool false, .bool false, .bool false, .bool false, .bool false, .bool false, .bool false, .bool false, .bool false, .bool false, .bool false, .int .i64 0, .int .i64 0, .int .i64 0, .int .i64 0, .int .i64 0, .int .i64 0, .int .i64 0, .int .i64 0, .int .i64 0, .int .i64 0, .int .i64 0, .int .i64 0, .int .i64 0, .int .i64 0, .int .i64 0, .int .i64 0, .int .i64 0, .int .i64 0, .int .i64 0, .int .i64 0, .int .i64 0, .int .i64 0, .int .i64 0, .int .i64 0, .int .i64 0, .int .i64 0, .int .i64 0, .int .i64 0] 111)) := ⟨hb6.on hC3.1, hb6.on hC3.2.1, hb6.on hC3.2.2⟩
  refine hK _ _ hC4 ?_
  obtain ⟨b, hbe⟩ : ∃ b, b = w4.heap.size := ⟨_, rfl⟩
  have HBE : Hid (w.heap.size ≤ b) := Lib.hid (by rw [hbe]; exact HB3.out.size)
  rw [← hbe] at HD ⊢
  clear hb6 hC3 HB3 hbe
  generalize w4.alloc (.cells #[.int .i64 C, .slice sa sn sc, .slice none 0 0, .bool false, .bool false, .bool false, .bool false, .bool false, .bool false, .bool false, .bool false, .bool false, .bool false, .bool false, .bool false, .bool false, .bool false, .bool false, .bool false, .bool false, .bool false, .bool false, .bool false, .bool false, .bool false, .bool false, .bool false, .bool false, .bool false, .bool false, .bool false, .int .i64 0, .int .i64 0, .int .i64 0, .int .i64 0, .int .i64 0, .int .i64 0, .int .i64 0, .int .i64 0, .int .i64 0, .int .i64 0, .int .i64 0, .int .i64 0, .int .i64 0, .int .i64 0, .int .i64 0, .int .i64 0, .int .i64 0, .int .i64 0, .int .i64 0, .int .i64 0, .int .i64 0, .int .i64 0, .int .i64 0, .int .i64 0, .int .i64 0, .int .i64 0, .int .i64 0, .int .i64 0] 111) = w5 at HD HB5 hC4 ⊢
  simp only [Act.put, List.setIfInBounds_toArray, List.set_cons_succ, List.set_cons_zero]
  refine Lim.stepR 7 (fun _ => trivial) rfl (by kernel_rfl) (fun _ _ _ _ h => h) hC4 rfl ?_; apply Exists.intro; refine ⟨?_, ?_⟩
  · rintro w ⟨r0, r1, r2⟩; go_simp; try with_reducible rfl
  simp only [Act.put, List.setIfInBounds_toArray, List.set_cons_succ, List.set_cons_zero]
  refine Lim.stepD (by kernel_rfl) ?_
  obtain ⟨c0, c1, c2⟩ := hC4
  clear c1 c2
  have hC14 : (C : Int) ≤ 14 := by omega
  go_wp2_with fail
  go_loop [18] (fun i => ∃ k : Nat, k ≤ C ∧ i = .int .i64 k) (fun i => C - (intOf i).toNat)
  case atStart => exact ⟨0, Nat.zero_le _, rfl⟩
  case round =>
    obtain ⟨k, hk, rfl⟩ := hrel
    by_cases hlt : k < C
    · have hlt' : (k : Int) < C := by omega
      have hk14 : k < 14 := by omega
      have hk14' : (k : Int) < 14 := by omega
      have d0 := HD.out.rf k hk14
      go_wp2_with fail
      go_round
      case rel => exact ⟨k + 1, by omega, by go_num⟩
      case measure => simp [intOf]; omega
    · have hlt' : ¬ (k : Int) < C := by omega
      go_wp2_with fail
      go_ret
      exact ⟨b, rfl, HBE.out, HB5.out, HD.out⟩
set_option maxRecDepth 20000 in
set_option maxHeartbeats 2000000 in
theorem copened_any {B C sc : Nat} {sa : Option Addr} {S : List (Nat × Nat)} {w : World} (h : CaseOk C S) (hB : B ≤ w.heap.size) (hv : RS B w (.slice sa S.length sc) S.length (spans (stk S))) :
    Calls Try.prog 37 #[.agg #[.int .i64 C, .slice sa S.length sc, .slice none 0 0], .slice none 0 0] w fun e w' => ∃ b, e = .returned (.tuple #[.pointer (some ⟨b, 0, none⟩), .int .i64 0]) ∧ w.heap.size ≤ b ∧ Below w.heap.size w w' ∧ DeskAt w' b C (.slice sa S.length sc) (List.replicate 14 0) (List.replicate 14 0) := by
  have hb0 := (Below.refl _ w).alloc (Nat.le_refl _) (.cells #[.int .i64 C, .slice sa S.length sc, .slice none 0 0] 36)
  have HB0 := Lib.hid hb0
  have c0 : (w.alloc (.cells #[.int .i64 C, .slice sa S.length sc, .slice none 0 0] 36)).cell? ⟨w.heap.size, 0, none⟩ = some (.int .i64 C) := by simp [go_sem]
  have c1 : (w.alloc (.cells #[.int .i64 C, .slice sa S.length sc, .slice none 0 0] 36)).cell? ⟨w.heap.size, 1, none⟩ = some (.slice sa S.length sc) := by simp [go_sem]
  have c2 : (w.alloc (.cells #[.int .i64 C, .slice sa S.length sc, .slice none 0 0] 36)).cell? ⟨w.heap.size, 2, none⟩ = some (.slice none 0 0) := by simp [go_sem]
  have HC := Lib.hid h
  have CK := Lib.hid (ccheck_any (w := w.alloc (.cells #[.int .i64 C, .slice sa S.length sc, .slice none 0 0] 36)) h (Nat.le_trans hB hb0.size) (hv.below (hb0.mono hB)))
  clear h hv hb0
  go_enter Try.func37, Try.ntmps37
  generalize hW : w.alloc (.cells #[.int .i64 C, .slice sa S.length sc, .slice none 0 0] 36) = w1 at HB0 c0 c1 c2 CK
  go_wp2_with fail
  refine CK.out.mono ?_
  rintro e w2 ⟨rfl, hb⟩
  have HB2 := Lib.hid (HB0.out.trans (hb.mono HB0.out.size))
  replace c0 := hb.on c0
  replace c1 := hb.on c1
  replace c2 := hb.on c2
  clear hb CK
  go_wp2_with fail
  refine (listed_nil _).mono ?_
  rintro e w3 ⟨rfl, hb⟩
  have HB3 := Lib.hid (HB2.out.trans (hb.mono HB2.out.size))
  replace c0 := hb.on c0
  replace c1 := hb.on c1
  replace c2 := hb.on c2
  clear hb
  go_wp2_with fail
  refine (begun_any HC.out.c.2).mono ?_
  rintro e w4 ⟨b, rfl, hbb, hb, hd⟩
  have HR := Lib.hid (And.intro (Nat.le_trans HB3.out.size hbb) (And.intro (HB3.out.trans (hb.mono HB3.out.size)) hd))
  clear hbb hb hd
  go_wp2
  go_ret2
  exact ⟨b, rfl, HR.out⟩
end Go.Proofs.Ytiacgaplhndlnaa
