/-
  Parts of the proof, in the order in which they build: CoK.
-/
import Derived.Test.YtiacgaplhndlnaaF45
set_option linter.unusedVariables false
set_option linter.unusedSimpArgs false
namespace Go.Proofs.Ytiacgaplhndlnaa
open Go Go.RowKit Go.Shelf
open Lim
attribute [local go_sem] Oper.semAt_some

/-- the rank of a claim holds -/
def HeldAt (S : List (Nat × Nat)) (F R : List Int) (n : Nat) : Prop :=
  (fdg F n = 1 ∧ strk F n 1 S = false ∧ strk F n 0 S = false ∧ nxtR R n S 1 ≤ fdg R n) ∨ (fdg F n = 2 ∧ ∃ b, (b, n) ∈ S ∧ fdg F b = 1 ∧ fdg R b < fdg R n)
set_option maxRecDepth 20000 in
set_option maxHeartbeats 4000000 in
theorem held_any {B b C n sc : Nat} {sa : Option Addr} {S : List (Nat × Nat)} {F R : List Int} {w : World} (hn : n < 14) (hd : DeskW B b C sa sc S F R w) (hR : ∀ k, 0 ≤ fdg R k ∧ fdg R k ≤ 1000) (hh : HeldAt S F R n) :
    Calls Try.prog 44 #[.pointer (some ⟨b, 0, none⟩), .int .i64 n] w fun e w' => e = .returned (.bool true) ∧ Below w.heap.size w w' := by
  refine (callsIn_wide (n := 2)).1 (callsIn_of_wp_marks Try.func44 rfl trivial ?_ rfl)
  simp only [Try.ntmps44, List.size_toArray, List.length_cons, List.length_nil, Nat.reduceAdd, Nat.reduceSub, Array.replicate_succ, Array.replicate_zero, List.push_toArray, List.append_toArray, List.nil_append, List.cons_append]
  refine wpIn_wide.2 ?_
  refine wp_noPanic ?_
  have HD := Lib.hid hd
  have HR := Lib.hid hR
  have hn14 : (n : Int) < 14 := by omega
  have hbw := hd.d.lt
  obtain ⟨r, hr⟩ : ∃ r, r = fdg R n := ⟨_, rfl⟩
  obtain ⟨v, hv⟩ : ∃ v, v = fdg F n := ⟨_, rfl⟩
  have d1 := hd.d.rf n hn
  have d2 := hd.d.fo n hn
  have d3 := hd.d.ra n hn
  rw [← hr] at d3
  rw [← hv] at d2
  unfold HeldAt at hh
  rw [← hr, ← hv] at hh
  have HRR := Lib.hid hr
  have HVV := Lib.hid hv
  have hb3 : Below w.heap.size w (((w.alloc (.cells #[.pointer (some ⟨b, 0, none⟩)] 103)).alloc (.cells #[.bool false] 4)).alloc (.cells #[.int .i64 r] 3)) := (((Below.refl _ w).alloc (Nat.le_refl _) _).alloc (by simp) _).alloc (by simp; omega) _
  have e1 := hb3.on d1
  have e2 := hb3.on d2
  have q0 : (((w.alloc (.cells #[.pointer (some ⟨b, 0, none⟩)] 103)).alloc (.cells #[.bool false] 4)).alloc (.cells #[.int .i64 r] 3)).cell? ⟨w.heap.size, 0, none⟩ = some (.pointer (some ⟨b, 0, none⟩)) := by simp [go_sem]
  have q1 : (((w.alloc (.cells #[.pointer (some ⟨b, 0, none⟩)] 103)).alloc (.cells #[.bool false] 4)).alloc (.cells #[.int .i64 r] 3)).cell? ⟨w.heap.size + 1, 0, none⟩ = some (.bool false) := by simp [go_sem]
  have q2 : (((w.alloc (.cells #[.pointer (some ⟨b, 0, none⟩)] 103)).alloc (.cells #[.bool false] 4)).alloc (.cells #[.int .i64 r] 3)).cell? ⟨w.heap.size + 1 + 1, 0, none⟩ = some (.int .i64 r) := by simp [go_sem]
  have q3 : (((w.alloc (.cells #[.pointer (some ⟨b, 0, none⟩)] 103)).alloc (.cells #[.bool false] 4)).alloc (.cells #[.int .i64 r] 3)).frozen? ⟨w.heap.size + 1, 0, none⟩ = false := by simp [go_sem]
  have HB3 := Lib.hid hb3
  clear hb3 d1 d2 hd hR hr hv
  rcases hh with ⟨rfl, h1, h0, hx⟩ | ⟨rfl, hx⟩
  · have HX := Lib.hid (And.intro h1 (And.intro h0 hx))
    clear h1 h0 hx
    go_upto_region 7 with (fail)
    have HD4 := Lib.hid (HD.out.on HB3.out)
    have hB3 := HB3.out
    generalize ((w.alloc (.cells #[.pointer (some ⟨b, 0, none⟩)] 103)).alloc (.cells #[.bool false] 4)).alloc (.cells #[.int .i64 r] 3) = w1 at HD4 hB3 q0 q1 q2 q3 ⊢
    clear e1 e2 d3 HB3
    have hC : (fun W => W.cell? ⟨w.heap.size, 0, none⟩ = some (.pointer (some ⟨b, 0, none⟩)) ∧ W.cell? ⟨w.heap.size + 1 + 1, 0, none⟩ = some (.int .i64 r) ∧ W.cell? ⟨w.heap.size + 1, 0, none⟩ = some (.bool false)) w1.drew := ⟨q0, q2, q1⟩
    have HD5 := Lib.hid (HD4.out.on (Below.refl _ _).drew)
    have HB5 := Lib.hid hB3.drew
    have zf : w1.drew.frozen? ⟨w.heap.size + 1, 0, none⟩ = false := q3
    clear hB3 q0 q1 q2 q3 HD4
    generalize hW0 : w1.drew = w2 at hC HD5 HB5 zf
    refine Lim.regC' (fun W => W.cell? ⟨w.heap.size, 0, none⟩ = some (.pointer (some ⟨b, 0, none⟩)) ∧ W.cell? ⟨w.heap.size + 1 + 1, 0, none⟩ = some (.int .i64 r) ∧ W.cell? ⟨w.heap.size + 1, 0, none⟩ = some (.bool false)) [10] #[false, false, false, false, false, false, false, false, false, false, false] (by kernel_rfl) rfl ?_
    rw [hW0]; clear hW0
    refine Lim.stepR 0 (fun _ => trivial) rfl (by kernel_rfl) (fun _ _ _ _ h => h) hC rfl ?_; apply Exists.intro; refine ⟨?_, ?_⟩
    · rintro w ⟨r0, r1, r2⟩; go_simp; try with_reducible rfl
    simp only [Act.put, List.setIfInBounds_toArray, List.set_cons_succ, List.set_cons_zero]
    refine Lim.stepR 1 (fun _ => trivial) rfl (by kernel_rfl) (fun _ _ _ _ h => h) hC rfl ?_; apply Exists.intro; refine ⟨?_, ?_⟩
    · rintro w ⟨r0, r1, r2⟩; go_simp; try with_reducible rfl
    simp only [Act.put, List.setIfInBounds_toArray, List.set_cons_succ, List.set_cons_zero]
    refine Lim.stepE 2 (fun _ => trivial) rfl (by kernel_rfl) rfl (fun K hK => ?_)   -- E call
    go_simp
    refine ⟨rfl, (callsIn_wide.2 (cfree_any hn HD5.out)).mono ?_⟩
    rintro e w5 ⟨rfl, hb⟩
    rw [HX.out.1, HX.out.2.1]
    simp only [Bool.not_false, Bool.and_self]
    have HD6 := Lib.hid (HD5.out.on hb)
    have HB6 := Lib.hid (HB5.out.trans (hb.mono HB5.out.size))
    have hC2 : (fun W => W.cell? ⟨w.heap.size, 0, none⟩ = some (.pointer (some ⟨b, 0, none⟩)) ∧ W.cell? ⟨w.heap.size + 1 + 1, 0, none⟩ = some (.int .i64 r) ∧ W.cell? ⟨w.heap.size + 1, 0, none⟩ = some (.bool false)) w5 := ⟨hb.on hC.1, hb.on hC.2.1, hb.on hC.2.2⟩
    have zf2 : w5.frozen? ⟨w.heap.size + 1, 0, none⟩ = false := frozen_on hb hC.2.2 zf
    refine hK _ _ hC2 ?_
    clear hb hC zf HD5 HB5
    simp only [Act.put, List.setIfInBounds_toArray, List.set_cons_succ, List.set_cons_zero]
    refine Lim.stepR 3 (fun _ => trivial) rfl (by kernel_rfl) (fun _ _ _ _ h => h) hC2 rfl ?_; apply Exists.intro; refine ⟨?_, ?_⟩
    · rintro w ⟨r0, r1, r2⟩; go_simp; try with_reducible rfl
    simp only [Act.put, List.setIfInBounds_toArray, List.set_cons_succ, List.set_cons_zero]
    refine Lim.stepR 4 (fun _ => trivial) rfl (by kernel_rfl) (fun _ _ _ _ h => h) hC2 rfl ?_; apply Exists.intro; refine ⟨?_, ?_⟩
    · rintro w ⟨r0, r1, r2⟩; go_simp; try with_reducible rfl
    simp only [Act.put, List.setIfInBounds_toArray, List.set_cons_succ, List.set_cons_zero]
    refine Lim.stepR 5 (fun _ => trivial) rfl (by kernel_rfl) (fun _ _ _ _ h => h) hC2 rfl ?_; apply Exists.intro; refine ⟨?_, ?_⟩
    · rintro w ⟨r0, r1, r2⟩; go_simp; try with_reducible rfl
    simp only [Act.put, List.setIfInBounds_toArray, List.set_cons_succ, List.set_cons_zero]
    refine Lim.stepR 6 (fun _ => trivial) rfl (by kernel_rfl) (fun _ _ _ _ h => h) hC2 rfl ?_; apply Exists.intro; refine ⟨?_, ?_⟩
    · rintro w ⟨r0, r1, r2⟩; go_simp; try with_reducible rfl
    simp only [Act.put, List.setIfInBounds_toArray, List.set_cons_succ, List.set_cons_zero]
    refine Lim.stepE 7 (fun _ => trivial) rfl (by kernel_rfl) rfl (fun K hK => ?_)   -- E call
    go_simp
    refine ⟨rfl, (callsIn_wide.2 (next_any hn HD6.out HR.out)).mono ?_⟩
    rintro e w6 ⟨rfl, hb⟩
    have HB7 := Lib.hid (HB6.out.trans (hb.mono HB6.out.size))
    have hC3 : (fun W => W.cell? ⟨w.heap.size, 0, none⟩ = some (.pointer (some ⟨b, 0, none⟩)) ∧ W.cell? ⟨w.heap.size + 1 + 1, 0, none⟩ = some (.int .i64 r) ∧ W.cell? ⟨w.heap.size + 1, 0, none⟩ = some (.bool false)) w6 := ⟨hb.on hC2.1, hb.on hC2.2.1, hb.on hC2.2.2⟩
    have zf3 : w6.frozen? ⟨w.heap.size + 1, 0, none⟩ = false := frozen_on hb hC2.2.2 zf2
    have hx := HX.out.2.2
    refine hK _ _ hC3 ?_
    clear hb hC2 zf2 HD6 HB6
    obtain ⟨m, hm⟩ : ∃ m, m = nxtR R n S 1 := ⟨_, rfl⟩
    rw [← hm] at hx ⊢
    clear hm
    simp only [Act.put, List.setIfInBounds_toArray, List.set_cons_succ, List.set_cons_zero]
    refine Lim.stepR 8 (fun _ => trivial) rfl (by kernel_rfl) (fun _ _ _ _ h => h) hC3 rfl ?_; apply Exists.intro; refine ⟨?_, ?_⟩
    · rintro w ⟨r0, r1, r2⟩; go_simp; try with_reducible rfl
    simp only [Act.put, List.setIfInBounds_toArray, List.set_cons_succ, List.set_cons_zero]
    refine Lim.stepR 9 (fun _ => trivial) rfl (by kernel_rfl) (fun _ _ _ _ h => h) hC3 rfl ?_; apply Exists.intro; refine ⟨?_, ?_⟩
    · rintro w ⟨r0, r1, r2⟩; go_simp; try with_reducible rfl
    simp only [Act.put, List.setIfInBounds_toArray, List.set_cons_succ, List.set_cons_zero]
    refine Lim.stepX 10 (fun _ => trivial) rfl (by kernel_rfl) rfl rfl (fun K hK => ?_)   -- E store
    have q1 := hC3.2.2
    have hd : decide (m ≤ r) = true := by simpa using hx
    go_simp
    have HR6 : Hid ((w6.setCell ⟨w.heap.size + 1, 0, none⟩ (.bool true)).cell? ⟨w.heap.size + 1, 0, none⟩ = some (.bool true) ∧ Below w.heap.size w (w6.setCell ⟨w.heap.size + 1, 0, none⟩ (.bool true))) := Lib.hid ⟨setCell_same _ _ q1, HB7.out.setCell (p := ⟨w.heap.size + 1, 0, none⟩) (by simp) _⟩
    refine hK _ _ ?_
    refine Lim.segC (fun _ => True) [] ?_
    simp only [Act.put, List.setIfInBounds_toArray, List.set_cons_succ, List.set_cons_zero]
    refine Lim.stepD (by kernel_rfl) ?_
    go_wp2
    refine leaves_marks (B := w.heap.size) _ (Marks.nil _ _) (fun w' hs => ⟨.bool true, ?_, rfl, ?_⟩)
    · have := hs.cell HR6.out.1
      simp [results, Try.f44, go_sem, this]
    · exact HR6.out.2.steady hs (Nat.le_refl _) HR6.out.2.size
  · have HX := Lib.hid hx
    clear hx
    go_wp2_with (go_at_call 92; refine (striking_any _ _ _).mono ?_; rintro e w' ⟨rfl, rfl⟩)
    have hb5 : Below w.heap.size w (((((w.alloc (.cells #[.pointer (some ⟨b, 0, none⟩)] 103)).alloc (.cells #[.bool false] 4)).alloc (.cells #[.int .i64 r] 3)).alloc (.cells #[.pointer (some ⟨b, 0, none⟩)] 103)).alloc (.cells #[.int .i64 n] 3)) := ((HB3.out).alloc (by simp; omega) _).alloc (by simp; omega) _
    have f4 : (((((w.alloc (.cells #[.pointer (some ⟨b, 0, none⟩)] 103)).alloc (.cells #[.bool false] 4)).alloc (.cells #[.int .i64 r] 3)).alloc (.cells #[.pointer (some ⟨b, 0, none⟩)] 103)).alloc (.cells #[.int .i64 n] 3)).cell? ⟨w.heap.size + 1 + 1 + 1, 0, none⟩ = some (.pointer (some ⟨b, 0, none⟩)) := by simp [go_sem]
    have f5 : (((((w.alloc (.cells #[.pointer (some ⟨b, 0, none⟩)] 103)).alloc (.cells #[.bool false] 4)).alloc (.cells #[.int .i64 r] 3)).alloc (.cells #[.pointer (some ⟨b, 0, none⟩)] 103)).alloc (.cells #[.int .i64 n] 3)).cell? ⟨w.heap.size + 1 + 1 + 1 + 1, 0, none⟩ = some (.int .i64 n) := by simp [go_sem]
    have hsz : (((((w.alloc (.cells #[.pointer (some ⟨b, 0, none⟩)] 103)).alloc (.cells #[.bool false] 4)).alloc (.cells #[.int .i64 r] 3)).alloc (.cells #[.pointer (some ⟨b, 0, none⟩)] 103)).alloc (.cells #[.int .i64 n] 3)).heap.size = w.heap.size + 5 := by simp
    have hb2 : Below (((w.alloc (.cells #[.pointer (some ⟨b, 0, none⟩)] 103)).alloc (.cells #[.bool false] 4)).alloc (.cells #[.int .i64 r] 3)).heap.size (((w.alloc (.cells #[.pointer (some ⟨b, 0, none⟩)] 103)).alloc (.cells #[.bool false] 4)).alloc (.cells #[.int .i64 r] 3)) (((((w.alloc (.cells #[.pointer (some ⟨b, 0, none⟩)] 103)).alloc (.cells #[.bool false] 4)).alloc (.cells #[.int .i64 r] 3)).alloc (.cells #[.pointer (some ⟨b, 0, none⟩)] 103)).alloc (.cells #[.int .i64 n] 3)) := ((Below.refl _ (((w.alloc (.cells #[.pointer (some ⟨b, 0, none⟩)] 103)).alloc (.cells #[.bool false] 4)).alloc (.cells #[.int .i64 r] 3))).alloc (Nat.le_refl _) _).alloc (by simp) _
    replace q3 := (frozen_on hb2 q1 q3)
    replace q0 := hb2.on q0
    replace q1 := hb2.on q1
    replace q2 := hb2.on q2
    clear e1 e2 d3 HB3 hb2
    generalize ((((w.alloc (.cells #[.pointer (some ⟨b, 0, none⟩)] 103)).alloc (.cells #[.bool false] 4)).alloc (.cells #[.int .i64 r] 3)).alloc (.cells #[.pointer (some ⟨b, 0, none⟩)] 103)).alloc (.cells #[.int .i64 n] 3) = W0 at hb5 f4 f5 hsz q0 q1 q2 q3 ⊢
    have hD := HD.out.on hb5
    have hCn := hD.cs hn f4 f5
    refine wp_range (xs := strkL S n) rfl (enters_of Try.func138 (by kernel_rfl) rfl) (Cs B (w.heap.size + 1 + 1 + 1) (w.heap.size + 1 + 1 + 1 + 1) b n (.slice sa S.length sc) S)
      (striking_iter hn HD.out.k.l hCn)
      (fun pre W => (∀ x ∈ pre, ¬ (fdg F x.toNat = 1 ∧ fdg R x.toNat < r)) ∧ Cs B (w.heap.size + 1 + 1 + 1) (w.heap.size + 1 + 1 + 1 + 1) b n (.slice sa S.length sc) S W ∧ W.cell? ⟨w.heap.size, 0, none⟩ = some (.pointer (some ⟨b, 0, none⟩)) ∧
        W.cell? ⟨w.heap.size + 1 + 1, 0, none⟩ = some (.int .i64 r) ∧ W.cell? ⟨w.heap.size + 1, 0, none⟩ = some (.bool false) ∧ W.frozen? ⟨w.heap.size + 1, 0, none⟩ = false ∧ Below w.heap.size w W)
      (fun j pre W => j = .ret ∧ W.cell? ⟨w.heap.size + 1, 0, none⟩ = some (.bool true) ∧ Below w.heap.size w W)
      (fun _ _ h => h.2.1) (fun _ _ h hs => h.steady hs) ?sI ?sX ⟨by simp, hCn, q0, q2, q1, q3, hb5⟩
      (fun x => { tmps := #[.pointer (some ⟨b, 0, none⟩), .int .i64 n, .pointer (some ⟨w.heap.size, 0, none⟩), undef, .pointer (some ⟨w.heap.size + 1, 0, none⟩), .pointer (some ⟨w.heap.size + 1 + 1, 0, none⟩), .int .i64 x, .pointer (some ⟨b, 0, none⟩), .int .i64 n, .pointer (some ⟨b, 0, none⟩), .pointer (some ⟨b, 45, none⟩), .pointer (some ⟨b, 45 + n, none⟩), .int .i64 r, .bool false, .pointer (some ⟨b, 0, none⟩), .int .i64 n, .pointer (some ⟨b, 0, none⟩), .pointer (some ⟨b, 3, none⟩), .pointer (some ⟨b, 3 + n, none⟩), .bool false, undef, undef, undef, undef, undef, undef, undef, undef, undef, undef, undef, .bool false, .pointer (some ⟨b, 0, none⟩), .int .i64 n, .pointer (some ⟨b, 0, none⟩), .pointer (some ⟨b, 31, none⟩), .pointer (some ⟨b, 31 + n, none⟩), .int .i64 2, .bool false, undef, undef, undef, undef, undef, undef, undef, undef, undef, undef, undef, undef, undef, .bool false, .pointer (some ⟨b, 0, none⟩), .int .i64 n, .pointer (some ⟨b, 0, none⟩), .pointer (some ⟨b, 31, none⟩), .pointer (some ⟨b, 31 + n, none⟩), .int .i64 2, .bool false, undef, undef, undef, undef, undef, undef, undef, undef, undef, undef, .pointer (some ⟨b, 0, none⟩), .int .i64 n, .func (.func 138) #[] #[.pointer (some ⟨w.heap.size + 1 + 1 + 1, 0, none⟩), .pointer (some ⟨w.heap.size + 1 + 1 + 1 + 1, 0, none⟩)], .int .i64 x, undef, undef, undef, undef, undef, undef, undef, undef, undef, undef, undef, undef, undef, undef, undef, undef, undef], defers := [] }) ?assign ?body ?done ?stop
    case sI => exact fun _ _ _ h hs => ⟨h.1, h.2.1.steady hs, hs.cell h.2.2.1, hs.cell h.2.2.2.1, hs.cell h.2.2.2.2.1, (hs.frozen h.2.2.2.2.1).trans h.2.2.2.2.2.1, h.2.2.2.2.2.2.steady hs (by omega) h.2.2.2.2.2.2.size⟩
    case sX => exact fun _ _ _ _ h hs => ⟨h.1, hs.cell h.2.1, h.2.2.steady hs (by omega) h.2.2.size⟩
    case assign =>
      intro l x W K hK
      gi_wp2
      exact hK
    case body =>
      rintro l pre x W hx ⟨i0, iC, i1, i2, i3, i4, iB⟩
      obtain ⟨k, rfl, hk14, hkS⟩ := HD.out.mem hx
      have hk14' : (k : Int) < 14 := by omega
      have hcell : W.cell? ⟨b, 31 + k, none⟩ = some (.int .i64 (fdg F k)) := cell_below iB (HD.out.d.fo k hk14) hbw
      have hcel2 : W.cell? ⟨b, 45 + k, none⟩ = some (.int .i64 (fdg R k)) := cell_below iB (HD.out.d.ra k hk14) hbw
      obtain ⟨v, hv⟩ : ∃ v, v = fdg F k := ⟨_, rfl⟩
      obtain ⟨u, hu⟩ : ∃ u, u = fdg R k := ⟨_, rfl⟩
      rw [← hv] at hcell
      rw [← hu] at hcel2
      have HUV := Lib.hid (And.intro hv hu)
      have IC := Lib.hid (And.intro i0 iC)
      have IB := Lib.hid iB
      clear hv hu hx hCn hD f4 f5 q0 q1 q2 q3 hb5 i0 iC iB
      refine wpIn_block ?_
      refine wpIn_seq_k (fun K1 hK1 => ?_)
      have hC : (fun W => W.cell? ⟨w.heap.size, 0, none⟩ = some (.pointer (some ⟨b, 0, none⟩)) ∧ W.cell? ⟨b, 31 + k, none⟩ = some (.int .i64 v) ∧ W.cell? ⟨b, 45 + k, none⟩ = some (.int .i64 u) ∧ W.cell? ⟨w.heap.size + 1 + 1, 0, none⟩ = some (.int .i64 r)) W.drew := ⟨i1, hcell, hcel2, i2⟩
      by_cases hv1 : v = 1
      · subst hv1
        refine Lim.regC (fun W => W.cell? ⟨w.heap.size, 0, none⟩ = some (.pointer (some ⟨b, 0, none⟩)) ∧ W.cell? ⟨b, 31 + k, none⟩ = some (.int .i64 1) ∧ W.cell? ⟨b, 45 + k, none⟩ = some (.int .i64 u) ∧ W.cell? ⟨w.heap.size + 1 + 1, 0, none⟩ = some (.int .i64 r)) [] #[false, false, false, false, false, false, false, false, false, false, false, false, false, false, false, false, false] (by kernel_rfl) rfl ?_
        refine Lim.stepR 0 (fun _ => trivial) rfl (by kernel_rfl) (fun _ _ _ _ h => h) hC rfl ?_; apply Exists.intro; refine ⟨?_, ?_⟩
        · rintro w ⟨r0, r1, r2, r3⟩; go_simp; try with_reducible rfl
        simp only [Act.put, List.setIfInBounds_toArray, List.set_cons_succ, List.set_cons_zero]
        refine Lim.stepR 1 (fun _ => trivial) rfl (by kernel_rfl) (fun _ _ _ _ h => h) hC rfl ?_; apply Exists.intro; refine ⟨?_, ?_⟩
        · rintro w ⟨r0, r1, r2, r3⟩; go_simp; try with_reducible rfl
        simp only [Act.put, List.setIfInBounds_toArray, List.set_cons_succ, List.set_cons_zero]
        refine Lim.stepR 2 (fun _ => trivial) rfl (by kernel_rfl) (fun _ _ _ _ h => h) hC rfl ?_; apply Exists.intro; refine ⟨?_, ?_⟩
        · rintro w ⟨r0, r1, r2, r3⟩; go_simp; try with_reducible rfl
        simp only [Act.put, List.setIfInBounds_toArray, List.set_cons_succ, List.set_cons_zero]
        refine Lim.stepR 3 (fun _ => trivial) rfl (by kernel_rfl) (fun _ _ _ _ h => h) hC rfl ?_; apply Exists.intro; refine ⟨?_, ?_⟩
        · rintro w ⟨r0, r1, r2, r3⟩; go_simp; try with_reducible rfl
        simp only [Act.put, List.setIfInBounds_toArray, List.set_cons_succ, List.set_cons_zero]
        refine Lim.stepR 4 (fun _ => trivial) rfl (by kernel_rfl) (fun _ _ _ _ h => h) hC rfl ?_; apply Exists.intro; refine ⟨?_, ?_⟩
        · rintro w ⟨r0, r1, r2, r3⟩; go_simp; try with_reducible rfl
        simp only [Act.put, List.setIfInBounds_toArray, List.set_cons_succ, List.set_cons_zero]
        refine Lim.stepR 5 (fun _ => trivial) rfl (by kernel_rfl) (fun _ _ _ _ h => h) hC rfl ?_; apply Exists.intro; refine ⟨?_, ?_⟩
        · rintro w ⟨r0, r1, r2, r3⟩; go_simp; try with_reducible rfl
        simp only [Act.put, List.setIfInBounds_toArray, List.set_cons_succ, List.set_cons_zero]
        refine Lim.stepR 6 (fun _ => trivial) rfl (by kernel_rfl) (fun _ _ _ _ h => h) hC rfl ?_; apply Exists.intro; refine ⟨?_, ?_⟩
        · rintro w ⟨r0, r1, r2, r3⟩; go_simp; try with_reducible rfl
        simp only [Act.put, List.setIfInBounds_toArray, List.set_cons_succ, List.set_cons_zero]
        refine Lim.stepR 7 (fun _ => trivial) rfl (by kernel_rfl) (fun _ _ _ _ h => h) hC rfl ?_; apply Exists.intro; refine ⟨?_, ?_⟩
        · rintro w ⟨r0, r1, r2, r3⟩; go_simp; try with_reducible rfl
        simp only [Act.put, List.setIfInBounds_toArray, List.set_cons_succ, List.set_cons_zero]
        refine Lim.stepR 8 (fun _ => trivial) rfl (by kernel_rfl) (fun _ _ _ _ h => h) hC rfl ?_; apply Exists.intro; refine ⟨?_, ?_⟩
        · rintro w ⟨r0, r1, r2, r3⟩; go_simp; try with_reducible rfl
        simp only [Act.put, List.setIfInBounds_toArray, List.set_cons_succ, List.set_cons_zero]
        refine Lim.stepR 9 (fun _ => trivial) rfl (by kernel_rfl) (fun _ _ _ _ h => h) hC rfl ?_; apply Exists.intro; refine ⟨?_, ?_⟩
        · rintro w ⟨r0, r1, r2, r3⟩; go_simp; try with_reducible rfl
        simp only [Act.put, List.setIfInBounds_toArray, List.set_cons_succ, List.set_cons_zero]
        refine Lim.stepR 10 (fun _ => trivial) rfl (by kernel_rfl) (fun _ _ _ _ h => h) hC rfl ?_; apply Exists.intro; refine ⟨?_, ?_⟩
        · rintro w ⟨r0, r1, r2, r3⟩; go_simp; try with_reducible rfl
        simp only [Act.put, List.setIfInBounds_toArray, List.set_cons_succ, List.set_cons_zero]
        refine Lim.stepR 11 (fun _ => trivial) rfl (by kernel_rfl) (fun _ _ _ _ h => h) hC rfl ?_; apply Exists.intro; refine ⟨?_, ?_⟩
        · rintro w ⟨r0, r1, r2, r3⟩; go_simp; try with_reducible rfl
        simp only [Act.put, List.setIfInBounds_toArray, List.set_cons_succ, List.set_cons_zero]
        refine Lim.stepR 12 (fun _ => trivial) rfl (by kernel_rfl) (fun _ _ _ _ h => h) hC rfl ?_; apply Exists.intro; refine ⟨?_, ?_⟩
        · rintro w ⟨r0, r1, r2, r3⟩; go_simp; try with_reducible rfl
        simp only [Act.put, List.setIfInBounds_toArray, List.set_cons_succ, List.set_cons_zero]
        refine Lim.stepR 13 (fun _ => trivial) rfl (by kernel_rfl) (fun _ _ _ _ h => h) hC rfl ?_; apply Exists.intro; refine ⟨?_, ?_⟩
        · rintro w ⟨r0, r1, r2, r3⟩; go_simp; try with_reducible rfl
        simp only [Act.put, List.setIfInBounds_toArray, List.set_cons_succ, List.set_cons_zero]
        refine Lim.stepR 14 (fun _ => trivial) rfl (by kernel_rfl) (fun _ _ _ _ h => h) hC rfl ?_; apply Exists.intro; refine ⟨?_, ?_⟩
        · rintro w ⟨r0, r1, r2, r3⟩; go_simp; try with_reducible rfl
        simp only [Act.put, List.setIfInBounds_toArray, List.set_cons_succ, List.set_cons_zero]
        refine Lim.stepR 15 (fun _ => trivial) rfl (by kernel_rfl) (fun _ _ _ _ h => h) hC rfl ?_; apply Exists.intro; refine ⟨?_, ?_⟩
        · rintro w ⟨r0, r1, r2, r3⟩; go_simp; try with_reducible rfl
        simp only [Act.put, List.setIfInBounds_toArray, List.set_cons_succ, List.set_cons_zero]
        refine Lim.stepR 16 (fun _ => trivial) rfl (by kernel_rfl) (fun _ _ _ _ h => h) hC rfl ?_; apply Exists.intro; refine ⟨?_, ?_⟩
        · rintro w ⟨r0, r1, r2, r3⟩; go_simp; try with_reducible rfl
        simp only [Act.put, List.setIfInBounds_toArray, List.set_cons_succ, List.set_cons_zero]
        refine Lim.stepD (by kernel_rfl) ?_
        refine hK1 _ _ ?_
        refine wpIn_cond_split rfl (fun h => ?_) (fun h => ?_)
        · gi_wp2
          exact ⟨(KeepsOthers.trans (KeepsOthers.drew W) (KeepsOthers.setCell _ _ _)).from _, rfl, World.cell?_setCell_same' _ _ _ (by first | (rw [show W.drew.cell? _ = _ from i3]; rfl) | (rw [i3]; rfl)), (IB.out.drew).setCell (p := ⟨w.heap.size + 1, 0, none⟩) (by simp) _⟩
        · have he : ¬ u < r := fun hl => by rw [decide_eq_true hl] at h; exact absurd h (by decide)
          gi_wp2
          refine ⟨(KeepsOthers.drew W).from _, ?_, IC.out.2.steady (Steady.drew 0 W), i1, i2, i3, i4, IB.out.drew⟩
          intro x hx
          rcases List.mem_append.1 hx with hx | hx
          · exact fun g => Int.not_lt.1 (fun g2 => IC.out.1 x hx ⟨g, g2⟩)
          · obtain rfl : x = k := by simpa using hx
            intro _
            have h3 := HUV.out.2
            have : r ≤ u := by omega
            rw [h3] at this
            exact this
      · have hne : (v == 1) = false := by rw [beq_eq_false_iff_ne]; exact hv1
        have HV1 := Lib.hid hv1
        clear hv1
        refine Lim.regC (fun W => W.cell? ⟨w.heap.size, 0, none⟩ = some (.pointer (some ⟨b, 0, none⟩)) ∧ W.cell? ⟨b, 31 + k, none⟩ = some (.int .i64 v) ∧ W.cell? ⟨b, 45 + k, none⟩ = some (.int .i64 u) ∧ W.cell? ⟨w.heap.size + 1 + 1, 0, none⟩ = some (.int .i64 r)) [] #[false, false, false, false, false, false, false, false, false, false, false, false, false, false, false, false, false] (by kernel_rfl) rfl ?_
        refine Lim.stepR 0 (fun _ => trivial) rfl (by kernel_rfl) (fun _ _ _ _ h => h) hC rfl ?_; apply Exists.intro; refine ⟨?_, ?_⟩
        · rintro w ⟨r0, r1, r2, r3⟩; go_simp; try with_reducible rfl
        simp only [Act.put, List.setIfInBounds_toArray, List.set_cons_succ, List.set_cons_zero]
        refine Lim.stepR 1 (fun _ => trivial) rfl (by kernel_rfl) (fun _ _ _ _ h => h) hC rfl ?_; apply Exists.intro; refine ⟨?_, ?_⟩
        · rintro w ⟨r0, r1, r2, r3⟩; go_simp; try with_reducible rfl
        simp only [Act.put, List.setIfInBounds_toArray, List.set_cons_succ, List.set_cons_zero]
        refine Lim.stepR 2 (fun _ => trivial) rfl (by kernel_rfl) (fun _ _ _ _ h => h) hC rfl ?_; apply Exists.intro; refine ⟨?_, ?_⟩
        · rintro w ⟨r0, r1, r2, r3⟩; go_simp; try with_reducible rfl
        simp only [Act.put, List.setIfInBounds_toArray, List.set_cons_succ, List.set_cons_zero]
        refine Lim.stepR 3 (fun _ => trivial) rfl (by kernel_rfl) (fun _ _ _ _ h => h) hC rfl ?_; apply Exists.intro; refine ⟨?_, ?_⟩
        · rintro w ⟨r0, r1, r2, r3⟩; go_simp; try with_reducible rfl
        simp only [Act.put, List.setIfInBounds_toArray, List.set_cons_succ, List.set_cons_zero]
        refine Lim.stepR 4 (fun _ => trivial) rfl (by kernel_rfl) (fun _ _ _ _ h => h) hC rfl ?_; apply Exists.intro; refine ⟨?_, ?_⟩
        · rintro w ⟨r0, r1, r2, r3⟩; go_simp; try with_reducible rfl
        simp only [Act.put, List.setIfInBounds_toArray, List.set_cons_succ, List.set_cons_zero]
        refine Lim.stepR 5 (fun _ => trivial) rfl (by kernel_rfl) (fun _ _ _ _ h => h) hC rfl ?_; apply Exists.intro; refine ⟨?_, ?_⟩
        · rintro w ⟨r0, r1, r2, r3⟩; go_simp; try with_reducible rfl
        simp only [Act.put, List.setIfInBounds_toArray, List.set_cons_succ, List.set_cons_zero]
        refine Lim.stepR 6 (fun _ => trivial) rfl (by kernel_rfl) (fun _ _ _ _ h => h) hC rfl ?_; apply Exists.intro; refine ⟨?_, ?_⟩
        · rintro w ⟨r0, r1, r2, r3⟩; go_simp; try with_reducible rfl
        simp only [Act.put, List.setIfInBounds_toArray, List.set_cons_succ, List.set_cons_zero]
        refine Lim.stepR 7 (fun _ => trivial) rfl (by kernel_rfl) (fun _ _ _ _ h => h) hC rfl ?_; apply Exists.intro; refine ⟨?_, ?_⟩
        · rintro w ⟨r0, r1, r2, r3⟩; go_simp; try with_reducible rfl
        simp only [Act.put, List.setIfInBounds_toArray, List.set_cons_succ, List.set_cons_zero]
        refine Lim.stepS 8 (fun _ => trivial) rfl (by kernel_rfl) (fun _ _ _ _ h => h) hC rfl ?_
        simp only [Act.put, List.setIfInBounds_toArray, List.set_cons_succ, List.set_cons_zero]
        refine Lim.stepS 9 (fun _ => trivial) rfl (by kernel_rfl) (fun _ _ _ _ h => h) hC rfl ?_
        simp only [Act.put, List.setIfInBounds_toArray, List.set_cons_succ, List.set_cons_zero]
        refine Lim.stepS 10 (fun _ => trivial) rfl (by kernel_rfl) (fun _ _ _ _ h => h) hC rfl ?_
        simp only [Act.put, List.setIfInBounds_toArray, List.set_cons_succ, List.set_cons_zero]
        refine Lim.stepS 11 (fun _ => trivial) rfl (by kernel_rfl) (fun _ _ _ _ h => h) hC rfl ?_
        simp only [Act.put, List.setIfInBounds_toArray, List.set_cons_succ, List.set_cons_zero]
        refine Lim.stepS 12 (fun _ => trivial) rfl (by kernel_rfl) (fun _ _ _ _ h => h) hC rfl ?_
        simp only [Act.put, List.setIfInBounds_toArray, List.set_cons_succ, List.set_cons_zero]
        refine Lim.stepS 13 (fun _ => trivial) rfl (by kernel_rfl) (fun _ _ _ _ h => h) hC rfl ?_
        simp only [Act.put, List.setIfInBounds_toArray, List.set_cons_succ, List.set_cons_zero]
        refine Lim.stepS 14 (fun _ => trivial) rfl (by kernel_rfl) (fun _ _ _ _ h => h) hC rfl ?_
        simp only [Act.put, List.setIfInBounds_toArray, List.set_cons_succ, List.set_cons_zero]
        refine Lim.stepS 15 (fun _ => trivial) rfl (by kernel_rfl) (fun _ _ _ _ h => h) hC rfl ?_
        simp only [Act.put, List.setIfInBounds_toArray, List.set_cons_succ, List.set_cons_zero]
        refine Lim.stepR 16 (fun _ => trivial) rfl (by kernel_rfl) (fun _ _ _ _ h => h) hC rfl ?_; apply Exists.intro; refine ⟨?_, ?_⟩
        · rintro w ⟨r0, r1, r2, r3⟩; go_simp; try with_reducible rfl
        simp only [Act.put, List.setIfInBounds_toArray, List.set_cons_succ, List.set_cons_zero]
        refine Lim.stepD (by kernel_rfl) ?_
        refine hK1 _ _ ?_
        gi_wp2
        refine ⟨(KeepsOthers.drew W).from _, ?_, IC.out.2.steady (Steady.drew 0 W), i1, i2, i3, i4, IB.out.drew⟩
        intro x hx
        rcases List.mem_append.1 hx with hx | hx
        · exact fun g => Int.not_lt.1 (fun g2 => IC.out.1 x hx ⟨g, g2⟩)
        · obtain rfl : x = k := by simpa using hx
          intro h2
          exact absurd (by rw [HUV.out.1]; exact h2) HV1.out
    case done =>
      rintro D W hD ⟨i0, -⟩ hDk
      obtain ⟨b', hb', g1, g2⟩ := HX.out
      exact absurd ⟨g1, g2⟩ (i0 (b' : Int) (mem_strkL.2 ⟨b', rfl, hb'⟩))
    case stop =>
      rintro D j pre W hD hpre ⟨rfl, i3, iB⟩ hDk
      go_wp2
      refine leaves_marks (B := W0.heap.size) _ ⟨[D], rfl, by simp, by simpa using ⟨hD, hDk⟩⟩ (fun w' hs => ⟨.bool true, ?_, rfl, ?_⟩)
      · have := hs.cell i3
        simp [results, Try.f44, go_sem, this]
      · exact iB.steady hs (by omega) iB.size
end Go.Proofs.Ytiacgaplhndlnaa
