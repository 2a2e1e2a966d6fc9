/-
  Parts of the proof, in the order in which they build: CoF.
-/
import Derived.WalkSpells
import Derived.WalkLawsBesides
import Derived.Test.YtiacgaplhndlnaaF40
set_option linter.unusedVariables false
set_option linter.unusedSimpArgs false
namespace Go.Proofs.Ytiacgaplhndlnaa
open Go.RowKit Go.Shelf
open Lim
attribute [local go_sem] Oper.semAt_some

theorem Cs.steady {B B' q2 q3 b n : Nat} {sv : Value} {S : List (Nat × Nat)} {w w' : World} (h : Cs B q2 q3 b n sv S w) (hs : Steady B' w w') : Cs B q2 q3 b n sv S w' :=
  ⟨hs.cell h.n3, hs.cell h.d2, hs.cell h.s1, hs.cell h.su, h.r.steady hs, Nat.le_trans h.B hs.size⟩
theorem striking_iter {B q2 q3 b n sc : Nat} {sa : Option Addr} {S : List (Nat × Nat)} {w : World} (hn : n < 14) (hS : S.length ≤ 60) (h : Cs B q2 q3 b n (.slice sa S.length sc) S w) :
    IterAt Try.prog 138 #[.pointer (some ⟨q2, 0, none⟩), .pointer (some ⟨q3, 0, none⟩)] (Cs B q2 q3 b n (.slice sa S.length sc) S) (strkL S n) w := by
  intro n' l J Jx W hW hJ hJx hY h0
  have hCW := h.on hW
  have key := striking1_in n' l B q2 q3 b n sc sa S (fun pre W => ∃ pl : List { x : Int // x ∈ strkL S n }, pl.map (·.1) = pre ∧ J pl W)
    (fun pre W => ∃ pl : List { x : Int // x ∈ strkL S n }, pl.map (·.1) = pre ∧ Jx pl W) ?_ ?_ W hn hS hCW ⟨[], rfl, h0⟩
  · refine key.mono ?_
    rintro e W' ⟨hv, ⟨ys, hys, pl, hpl, hj⟩ | ⟨pre, hpre, pl, hpl, hj⟩⟩
    · exact ⟨hv, .inl ⟨pl, hpl.trans hys, hj⟩⟩
    · exact ⟨hv, .inr ⟨pl, (by show pl.map (·.1) <+: _; rw [hpl]; exact hpre), hj⟩⟩
  · rintro pre x W1 ⟨pl, hpl, hj⟩ hpre
    have hx : x ∈ strkL S n := hpre.subset (by simp)
    have hlen : pl.length < (strkL S n).length + 1 := by
      have h1 := hpre.length_le
      rw [← hpl] at h1
      simp at h1
      omega
    obtain ⟨fn, tmps, assign, body, hy, hR⟩ := hY pl ⟨x, hx⟩ W1 hj hlen
    refine ⟨fn, tmps, assign, body, hy, hR.mono ?_⟩
    rintro e W' (⟨he, hj', hk⟩ | ⟨he, hj'⟩)
    · exact .inl ⟨he, ⟨pl ++ [⟨x, hx⟩], by simp [hpl], hj'⟩, hk⟩
    · exact .inr ⟨he, ⟨pl ++ [⟨x, hx⟩], by simp [hpl], hj'⟩⟩
  · rintro pre W1 W2 ⟨pl, hpl, hj⟩ hg
    exact ⟨pl, hpl, hJ pl W1 W2 none hj hg (fun r e => by cases e)⟩
set_option maxHeartbeats 400000 in
theorem striking_any (q : Option Addr) (n : Int) (w : World) :
    Calls Try.prog 92 #[.pointer q, .int .i64 n] w fun e w' =>
      e = .returned (.func (.func 138) #[] #[.pointer (some ⟨w.heap.size, 0, none⟩), .pointer (some ⟨w.heap.size + 1, 0, none⟩)]) ∧
      (w.alloc (.cells #[.pointer q] 103)).alloc (.cells #[.int .i64 n] 3) = w' := by
  go_enter Try.func92, Try.ntmps92
  go_wp2
  go_ret
  exact ⟨rfl, rfl⟩
theorem strk_false {F : List Int} {n : Nat} {f : Int} {S : List (Nat × Nat)} (h : ∀ x ∈ strkL S n, fdg F x.toNat ≠ f) : strk F n f S = false := by
  rw [← Bool.not_eq_true]
  intro e
  obtain ⟨b, hb, e⟩ := strk_iff.1 e
  exact h b (mem_strkL.2 ⟨b, rfl, hb⟩) (by simpa using e)
theorem strk_true {F : List Int} {n : Nat} {f : Int} {S : List (Nat × Nat)} {x : Int} (h : x ∈ strkL S n) (e : fdg F x.toNat = f) : strk F n f S = true := by
  obtain ⟨b, rfl, hb⟩ := mem_strkL.1 h
  exact strk_iff.2 ⟨b, hb, by simpa using e⟩
/-- what the functions of a case at work are asked on -/
structure DeskW (B b C : Nat) (sa : Option Addr) (sc : Nat) (S : List (Nat × Nat)) (F R : List Int) (w : World) : Prop where
  d : DeskAt w b C (.slice sa S.length sc) F R
  r : RS B w (.slice sa S.length sc) S.length (spans (stk S))
  sB : B ≤ w.heap.size
  bB : B ≤ b
  k : CaseOk C S
theorem DeskW.on {B b C sc : Nat} {sa : Option Addr} {S : List (Nat × Nat)} {F R : List Int} {w w' : World} (h : DeskW B b C sa sc S F R w) (hb : Below w.heap.size w w') : DeskW B b C sa sc S F R w' :=
  ⟨h.d.on hb, h.r.below (hb.mono h.sB), Nat.le_trans h.sB hb.size, h.bB, h.k⟩
theorem DeskW.mem {B b C sc n : Nat} {sa : Option Addr} {S : List (Nat × Nat)} {F R : List Int} {w : World} (h : DeskW B b C sa sc S F R w) {x : Int} (hx : x ∈ strkL S n) : ∃ k : Nat, x = k ∧ k < 14 ∧ (k, n) ∈ S := by
  obtain ⟨k, e, hk⟩ := mem_strkL.1 hx
  exact ⟨k, e, by have h1 := (h.k.lt _ hk).1; have := h.k.c; dsimp only at h1; omega, hk⟩
theorem DeskW.cs {B b C sc n q2 q3 : Nat} {sa : Option Addr} {S : List (Nat × Nat)} {F R : List Int} {w : World} (h : DeskW B b C sa sc S F R w) (hn : n < 14) (c2 : w.cell? ⟨q2, 0, none⟩ = some (.pointer (some ⟨b, 0, none⟩))) (c3 : w.cell? ⟨q3, 0, none⟩ = some (.int .i64 n)) : Cs B q2 q3 b n (.slice sa S.length sc) S w :=
  ⟨c3, c2, h.d.c1, h.d.su n hn, h.r, h.sB⟩
set_option maxRecDepth 20000 in
set_option maxHeartbeats 2000000 in
theorem struck_any {B b C n sc : Nat} {f : Int} {sa : Option Addr} {S : List (Nat × Nat)} {F R : List Int} {w : World} (hn : n < 14) (hd : DeskW B b C sa sc S F R w) :
    Calls Try.prog 89 #[.pointer (some ⟨b, 0, none⟩), .int .i64 n, .int .i64 f] w fun e w' => e = .returned (.bool (strk F n f S)) ∧ Below w.heap.size w w' := by
  refine (callsIn_wide (n := 2)).1 (callsIn_of_wp_marks Try.func89 rfl trivial ?_ rfl)
  simp only [Try.ntmps89, List.size_toArray, List.length_cons, List.length_nil, Nat.reduceAdd, Nat.reduceSub, Array.replicate_succ, Array.replicate_zero, List.push_toArray, List.append_toArray, List.nil_append, List.cons_append]
  refine wpIn_wide.2 ?_
  go_wp2_with (go_at_call 92; refine (striking_any _ _ _).mono ?_; rintro e w' ⟨rfl, rfl⟩)
  have hbw := hd.d.lt
  generalize hW : World.alloc _ _ = W0
  have hsz : w.heap.size + 5 = W0.heap.size := by rw [← hW]; simp
  have hB0 : Below w.heap.size w W0 := by rw [← hW]; exact (((((Below.refl _ w).alloc (Nat.le_refl _) _).alloc (by simp) _).alloc (by simp; omega) _).alloc (by simp; omega) _).alloc (by simp; omega) _
  have f0 : W0.cell? ⟨w.heap.size, 0, none⟩ = some (.pointer (some ⟨b, 0, none⟩)) := by rw [← hW]; simp [go_sem]
  have f1 : W0.cell? ⟨w.heap.size + 1, 0, none⟩ = some (.int .i64 f) := by rw [← hW]; simp [go_sem]
  have f2 : W0.cell? ⟨w.heap.size + 1 + 1, 0, none⟩ = some (.bool false) := by rw [← hW]; simp [go_sem]
  have f3 : W0.frozen? ⟨w.heap.size + 1 + 1, 0, none⟩ = false := by rw [← hW]; simp [go_sem]
  have f4 : W0.cell? ⟨w.heap.size + 1 + 1 + 1, 0, none⟩ = some (.pointer (some ⟨b, 0, none⟩)) := by rw [← hW]; simp [go_sem]
  have f5 : W0.cell? ⟨w.heap.size + 1 + 1 + 1 + 1, 0, none⟩ = some (.int .i64 n) := by rw [← hW]; simp [go_sem]
  have hD := hd.on hB0
  have hCn := hD.cs hn f4 f5
  clear hW
  refine wp_range (xs := strkL S n) rfl (enters_of Try.func138 (by kernel_rfl) rfl) (Cs B (w.heap.size + 1 + 1 + 1) (w.heap.size + 1 + 1 + 1 + 1) b n (.slice sa S.length sc) S)
    (striking_iter hn hd.k.l hCn)
    (fun pre W => (∀ x ∈ pre, fdg F x.toNat ≠ f) ∧ Cs B (w.heap.size + 1 + 1 + 1) (w.heap.size + 1 + 1 + 1 + 1) b n (.slice sa S.length sc) S W ∧ W.cell? ⟨w.heap.size, 0, none⟩ = some (.pointer (some ⟨b, 0, none⟩)) ∧
      W.cell? ⟨w.heap.size + 1, 0, none⟩ = some (.int .i64 f) ∧ W.cell? ⟨w.heap.size + 1 + 1, 0, none⟩ = some (.bool false) ∧ W.frozen? ⟨w.heap.size + 1 + 1, 0, none⟩ = false ∧ Below w.heap.size w W)
    (fun j pre W => j = .ret ∧ (∃ x ∈ pre, fdg F x.toNat = f) ∧ W.cell? ⟨w.heap.size + 1 + 1, 0, none⟩ = some (.bool true) ∧ Below w.heap.size w W)
    (fun _ _ h => h.2.1) (fun _ _ h hs => h.steady hs) ?sI ?sX ⟨by simp, hCn, f0, f1, f2, f3, hB0⟩
    (fun x => { tmps := #[.pointer (some ⟨b, 0, none⟩), .int .i64 n, .int .i64 f, .pointer (some ⟨w.heap.size, 0, none⟩), undef, .pointer (some ⟨w.heap.size + 1, 0, none⟩), .pointer (some ⟨w.heap.size + 1 + 1, 0, none⟩), .int .i64 x,
      .pointer (some ⟨b, 0, none⟩), .int .i64 n, .func (.func 138) #[] #[.pointer (some ⟨w.heap.size + 1 + 1 + 1, 0, none⟩), .pointer (some ⟨w.heap.size + 1 + 1 + 1 + 1, 0, none⟩)], .int .i64 x,
      undef, undef, undef, undef, undef, undef, undef, undef], defers := [] }) ?assign ?body ?done ?stop
  case sI => exact fun _ _ _ h hs => ⟨h.1, h.2.1.steady hs, hs.cell h.2.2.1, hs.cell h.2.2.2.1, hs.cell h.2.2.2.2.1, (hs.frozen h.2.2.2.2.1).trans h.2.2.2.2.2.1, h.2.2.2.2.2.2.steady hs (by omega) h.2.2.2.2.2.2.size⟩
  case sX => exact fun _ _ _ _ h hs => ⟨h.1, h.2.1, hs.cell h.2.2.1, h.2.2.2.steady hs (by omega) h.2.2.2.size⟩
  case assign =>
    intro l x W K hK
    gi_wp2
    exact hK
  case body =>
    rintro l pre x W hx ⟨i0, iC, i1, i2, i3, i4, iB⟩
    obtain ⟨k, rfl, hk14, hkS⟩ := hd.mem hx
    have hk14' : (k : Int) < 14 := by omega
    have hcell : W.cell? ⟨b, 31 + k, none⟩ = some (.int .i64 (fdg F k)) := cell_below iB (hd.d.fo k hk14) hbw
    obtain ⟨v, hv⟩ : ∃ v, v = fdg F k := ⟨_, rfl⟩
    rw [← hv] at hcell
    have HV := Lib.hid hv
    clear hv hx hCn f0 f1 f2 f3 f4 f5
    refine wpIn_block ?_
    refine wpIn_seq_k (fun K1 hK1 => ?_)
    have hC : (fun W => W.cell? ⟨w.heap.size, 0, none⟩ = some (.pointer (some ⟨b, 0, none⟩)) ∧ W.cell? ⟨b, 31 + k, none⟩ = some (.int .i64 v) ∧ W.cell? ⟨w.heap.size + 1, 0, none⟩ = some (.int .i64 f)) W.drew := ⟨i1, hcell, i2⟩
    refine Lim.regC (fun W => W.cell? ⟨w.heap.size, 0, none⟩ = some (.pointer (some ⟨b, 0, none⟩)) ∧ W.cell? ⟨b, 31 + k, none⟩ = some (.int .i64 v) ∧ W.cell? ⟨w.heap.size + 1, 0, none⟩ = some (.int .i64 f)) [] #[false, false, false, false, false, false, false, false] (by kernel_rfl) rfl ?_
    refine Lim.stepR 0 (fun _ => trivial) rfl (by kernel_rfl) (fun _ _ _ _ h => h) hC rfl ?_; apply Exists.intro; refine ⟨?_, ?_⟩
    · rintro w ⟨r1, r2, r3⟩; go_simp; try with_reducible rfl
    simp only [Act.put, List.setIfInBounds_toArray, List.set_cons_succ, List.set_cons_zero]
    refine Lim.stepR 1 (fun _ => trivial) rfl (by kernel_rfl) (fun _ _ _ _ h => h) hC rfl ?_; apply Exists.intro; refine ⟨?_, ?_⟩
    · rintro w ⟨r1, r2, r3⟩; go_simp; try with_reducible rfl
    simp only [Act.put, List.setIfInBounds_toArray, List.set_cons_succ, List.set_cons_zero]
    refine Lim.stepR 2 (fun _ => trivial) rfl (by kernel_rfl) (fun _ _ _ _ h => h) hC rfl ?_; apply Exists.intro; refine ⟨?_, ?_⟩
    · rintro w ⟨r1, r2, r3⟩; go_simp; try with_reducible rfl
    simp only [Act.put, List.setIfInBounds_toArray, List.set_cons_succ, List.set_cons_zero]
    refine Lim.stepR 3 (fun _ => trivial) rfl (by kernel_rfl) (fun _ _ _ _ h => h) hC rfl ?_; apply Exists.intro; refine ⟨?_, ?_⟩
    · rintro w ⟨r1, r2, r3⟩; go_simp; try with_reducible rfl
    simp only [Act.put, List.setIfInBounds_toArray, List.set_cons_succ, List.set_cons_zero]
    refine Lim.stepR 4 (fun _ => trivial) rfl (by kernel_rfl) (fun _ _ _ _ h => h) hC rfl ?_; apply Exists.intro; refine ⟨?_, ?_⟩
    · rintro w ⟨r1, r2, r3⟩; go_simp; try with_reducible rfl
    simp only [Act.put, List.setIfInBounds_toArray, List.set_cons_succ, List.set_cons_zero]
    refine Lim.stepR 5 (fun _ => trivial) rfl (by kernel_rfl) (fun _ _ _ _ h => h) hC rfl ?_; apply Exists.intro; refine ⟨?_, ?_⟩
    · rintro w ⟨r1, r2, r3⟩; go_simp; try with_reducible rfl
    simp only [Act.put, List.setIfInBounds_toArray, List.set_cons_succ, List.set_cons_zero]
    refine Lim.stepR 6 (fun _ => trivial) rfl (by kernel_rfl) (fun _ _ _ _ h => h) hC rfl ?_; apply Exists.intro; refine ⟨?_, ?_⟩
    · rintro w ⟨r1, r2, r3⟩; go_simp; try with_reducible rfl
    simp only [Act.put, List.setIfInBounds_toArray, List.set_cons_succ, List.set_cons_zero]
    refine Lim.stepR 7 (fun _ => trivial) rfl (by kernel_rfl) (fun _ _ _ _ h => h) hC rfl ?_; apply Exists.intro; refine ⟨?_, ?_⟩
    · rintro w ⟨r1, r2, r3⟩; go_simp; try with_reducible rfl
    simp only [Act.put, List.setIfInBounds_toArray, List.set_cons_succ, List.set_cons_zero]
    refine Lim.stepD (by kernel_rfl) ?_
    refine hK1 _ _ ?_
    refine wpIn_cond_split rfl (fun h => ?_) (fun h => ?_)
    · have he : v = f := by simpa using h
      gi_wp2
      exact ⟨(KeepsOthers.trans (KeepsOthers.drew W) (KeepsOthers.setCell _ _ _)).from _, rfl, ⟨k, by simp, by rw [← he, HV.out]; rfl⟩, World.cell?_setCell_same' _ _ _ (by first | (rw [show W.drew.cell? _ = _ from i3]; rfl) | (rw [i3]; rfl)), (iB.drew).setCell (p := ⟨w.heap.size + 1 + 1, 0, none⟩) (by simp; omega) _⟩
    · have he : v ≠ f := by simpa using h
      gi_wp2
      refine ⟨(KeepsOthers.drew W).from _, ?_, iC.steady (Steady.drew 0 W), i1, i2, i3, i4, iB.drew⟩
      intro x hx
      rcases List.mem_append.1 hx with hx | hx
      · exact i0 x hx
      · obtain rfl : x = k := by simpa using hx
        rw [HV.out] at he
        simpa using he
  case done =>
    rintro D W hD ⟨i0, iC, i1, i2, i3, i4, iB⟩ hDk
    go_wp2
    have hk := (KeepsOthers.setCell W ⟨w.heap.size + 1 + 1, 0, none⟩ (.bool false)).same D _ hDk rfl
    refine leaves_marks (B := W0.heap.size) _ ⟨[D], rfl, by simp, by simpa using ⟨hD, hk⟩⟩ (fun w' hs => ⟨.bool false, ?_, by rw [strk_false i0], ?_⟩)
    · have := hs.cell (World.cell?_setCell_same' W ⟨w.heap.size + 1 + 1, 0, none⟩ (.bool false) (by rw [i3]; rfl))
      simp [results, Try.f89, go_sem, this]
    · exact (iB.setCell (p := ⟨w.heap.size + 1 + 1, 0, none⟩) (by simp; omega) _).steady hs (by omega) (by have := iB.size; simp [World.setCell]; omega)
  case stop =>
    rintro D j pre W hD hpre ⟨rfl, ⟨x, hx, hxs⟩, i3, iB⟩ hDk
    go_wp2
    refine leaves_marks (B := W0.heap.size) _ ⟨[D], rfl, by simp, by simpa using ⟨hD, hDk⟩⟩ (fun w' hs => ⟨.bool true, ?_, by rw [strk_true (hpre.subset hx) hxs], ?_⟩)
    · have := hs.cell i3
      simp [results, Try.f89, go_sem, this]
    · exact iB.steady hs (by omega) iB.size
set_option maxHeartbeats 400000 in
theorem cfree_any {B b C n sc : Nat} {sa : Option Addr} {S : List (Nat × Nat)} {F R : List Int} {w : World} (hn : n < 14) (hd : DeskW B b C sa sc S F R w) :
    Calls Try.prog 90 #[.pointer (some ⟨b, 0, none⟩), .int .i64 n] w fun e w' => e = .returned (.bool (!strk F n 1 S && !strk F n 0 S)) ∧ Below w.heap.size w w' := by
  have HD := Lib.hid hd
  clear hd
  go_enter Try.func90, Try.ntmps90
  go_wp2_with fail
  refine (struck_any hn HD.out).mono ?_
  rintro e w1 ⟨rfl, hb⟩
  have HD1 := Lib.hid (HD.out.on hb)
  have HB := Lib.hid hb
  clear hb
  obtain ⟨u, hu⟩ : ∃ u, u = strk F n 1 S := ⟨_, rfl⟩
  rw [← hu]
  have HU := Lib.hid hu
  clear hu
  cases u with
  | true =>
    go_wp2
    go_ret
    exact ⟨by rw [← HU.out]; rfl, HB.out⟩
  | false =>
    go_wp2_with fail
    refine (struck_any hn HD1.out).mono ?_
    rintro e w2 ⟨rfl, hb⟩
    have HB2 := Lib.hid (HB.out.trans (hb.mono HB.out.size))
    clear hb
    go_wp2
    go_ret
    exact ⟨by rw [← HU.out]; rfl, HB2.out⟩
end Go.Proofs.Ytiacgaplhndlnaa
