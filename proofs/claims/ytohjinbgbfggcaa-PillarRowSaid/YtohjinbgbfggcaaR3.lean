/-
  Parts of the proof, in the order in which they build: At.
-/
import Derived.WalkSpells
import Derived.WalkLawsBesides
import Derived.Test.YtohjinbgbfggcaaR2
import Derived.Test.YtohjinbgbfggcaaA1
set_option linter.unusedVariables false
set_option linter.unusedSimpArgs false
namespace Go.Proofs.Ytohjinbgbfggcaa.Rg
open Go.RowKit Go.Shelf
open Lim

theorem Cn.steady {bw bc b wd N cap c B : Nat} {ha : Option Addr} {w w' : World} (h : Cn bw bc b wd N cap c ha w) (hs : Steady B w w') : Cn bw bc b wd N cap c ha w' :=
  ⟨hs.cell h.1, hs.cell h.2.1, hs.cell h.2.2.1, hs.cell h.2.2.2⟩
theorem Cn.below {bw bc b wd N cap c : Nat} {ha : Option Addr} {w w' : World} (h : Cn bw bc b wd N cap c ha w) (hb : Below w.heap.size w w') : Cn bw bc b wd N cap c ha w' :=
  ⟨(hb.cell (World.block_lt_of_cell? _ _ h.1)).trans h.1, (hb.cell (World.block_lt_of_cell? _ _ h.2.1)).trans h.2.1, (hb.cell (World.block_lt_of_cell? _ _ h.2.2.1)).trans h.2.2.1, (hb.cell (World.block_lt_of_cell? _ _ h.2.2.2)).trans h.2.2.2⟩

theorem nbr_iter {bw bc b wd N cap c : Nat} {ha : Option Addr} {w : World} (hw0 : 0 < wd) (hwd : wd ≤ 100) (hN : N ≤ 100) (hc : c < 100) (h : Cn bw bc b wd N cap c ha w) :
    IterAt Try.prog 98 #[.pointer (some ⟨bw, 0, none⟩), .pointer (some ⟨bc, 0, none⟩)] (Cn bw bc b wd N cap c ha) (nbrL wd N c) w := by
  intro n l J Jx W hW hJ hJx hY h0
  have hCW := h.below hW
  have key := nbr1_in Fence.wide n (fun _ => trivial) rfl rfl l bw bc b wd N c cap ha (fun pre W => ∃ pl : List { x : Int // x ∈ nbrL wd N c }, pl.map (·.1) = pre ∧ J pl W)
    (fun pre W => ∃ pl : List { x : Int // x ∈ nbrL wd N c }, pl.map (·.1) = pre ∧ Jx pl W) ?_ ?_ W hw0 hwd hN hc hCW ⟨[], rfl, h0⟩
  · refine key.mono ?_
    rintro e W' ⟨hv, ⟨ys, hys, pl, hpl, hj⟩ | ⟨pre, hpre, pl, hpl, hj⟩⟩
    · exact ⟨hv, .inl ⟨pl, hpl.trans hys, hj⟩⟩
    · exact ⟨hv, .inr ⟨pl, (by show pl.map (·.1) <+: _; rw [hpl]; exact hpre), hj⟩⟩
  · rintro pre x W1 ⟨pl, hpl, hj⟩ hpre
    have hx : x ∈ nbrL wd N c := hpre.subset (by simp)
    have hlen : pl.length < (nbrL wd N c).length + 1 := by
      have h1 := hpre.length_le
      rw [← hpl] at h1
      simp at h1
      omega
    obtain ⟨fn, tmps, assign, body, hy, hR⟩ := hY pl ⟨x, hx⟩ W1 hj hlen
    refine ⟨fn, tmps, assign, body, hy, hR.mono ?_⟩
    rintro e W' (⟨he, hj', hk⟩ | ⟨he, hj'⟩)
    · exact .inl ⟨he, ⟨pl ++ [⟨x, hx⟩], by simp [hpl], hj'⟩, hk⟩
    · exact .inr ⟨he, ⟨pl ++ [⟨x, hx⟩], by simp [hpl], hj'⟩⟩
  · rintro pre W1 ⟨pl, hpl, hj⟩
    exact ⟨pl, hpl, hJ pl W1 W1.drew none hj ⟨rfl, rfl, rfl, Nat.le_refl _, fun _ _ _ => rfl⟩ (fun r e => by cases e)⟩

set_option maxHeartbeats 400000 in
theorem neighbours_any (p c : Value) (w : World) (hp : ∃ q, p = .pointer q) (hc : ∃ n, c = .int .i64 n) :
    Calls Try.prog 92 #[p, c] w fun e w' =>
      e = .returned (.func (.func 98) #[] #[.pointer (some ⟨w.heap.size, 0, none⟩), .pointer (some ⟨w.heap.size + 1, 0, none⟩)]) ∧
      (w.alloc (.cells #[p] 55)).alloc (.cells #[c] 3) = w' := by
  obtain ⟨q, rfl⟩ := hp
  obtain ⟨n, rfl⟩ := hc
  go_enter Try.func92, Try.ntmps92
  go_wp2
  go_ret
  exact ⟨rfl, rfl⟩

/-- a ground at work: block b holds it, its lists lie below B -/
structure WorkAt (B : Nat) (w : World) (b : Nat) (g : Gd) : Prop where
  lt : b < B
  c0 : w.cell? ⟨b, 0, none⟩ = some (.int .i64 g.wd)
  c1 : ∃ hv, w.cell? ⟨b, 1, none⟩ = some hv ∧ RS B w hv g.hs.length (spans g.hs)
  c2 : ∃ sv, w.cell? ⟨b, 2, none⟩ = some sv ∧ RS B w sv g.ss.length (ints g.ss)
theorem WorkAt.below {B : Nat} {w w' : World} {b : Nat} {g : Gd} (h : WorkAt B w b g) (hb : Below B w w') : WorkAt B w' b g :=
  ⟨h.lt, (hb.cell (p := ⟨b, 0, none⟩) h.lt).trans h.c0, let ⟨v, h1, h2⟩ := h.c1; ⟨v, (hb.cell (p := ⟨b, 1, none⟩) h.lt).trans h1, h2.below hb⟩, let ⟨v, h1, h2⟩ := h.c2; ⟨v, (hb.cell (p := ⟨b, 2, none⟩) h.lt).trans h1, h2.below hb⟩⟩
theorem WorkAt.mono {B B' : Nat} {w : World} {b : Nat} {g : Gd} (h : WorkAt B w b g) (hB : B ≤ B') : WorkAt B' w b g :=
  ⟨Nat.lt_of_lt_of_le h.lt hB, h.c0, let ⟨v, h1, h2⟩ := h.c1; ⟨v, h1, h2.mono hB⟩, let ⟨v, h1, h2⟩ := h.c2; ⟨v, h1, h2.mono hB⟩⟩

attribute [local go_sem] Oper.semAt_some
set_option maxRecDepth 100000 in
set_option maxHeartbeats 1000000 in
theorem at_any {B b c : Nat} {g : Gd} {s : Int} {w : World} (hg : g.Ok) (hc : c < g.ss.length) (hB : B ≤ w.heap.size) (hw : WorkAt B w b g) :
    Calls Try.prog 70 #[.pointer (some ⟨b, 0, none⟩), .int .i64 c, .int .i64 s] w fun e w' => e = .returned (.bool (atB g c s)) ∧ Below w.heap.size w w' := by
  refine (callsIn_wide (n := 2)).1 (callsIn_of_wp_marks Try.func70 rfl trivial ?_ rfl)
  simp only [Try.ntmps70, List.size_toArray, List.length_cons, List.length_nil, Nat.reduceAdd, Nat.reduceSub, Array.replicate_succ, Array.replicate_zero, List.push_toArray, List.append_toArray, List.nil_append, List.cons_append]
  refine wpIn_wide.2 ?_
  go_wp2_with (go_at_call 92; refine (neighbours_any _ _ _ ⟨_, rfl⟩ ⟨_, rfl⟩).mono ?_; rintro e w' ⟨rfl, rfl⟩)
  obtain ⟨hlt, hc0, ⟨hv, hc1, ha, hcap, rfl, hha⟩, ⟨sv, hc2, sa, scap, rfl, hsa⟩⟩ := hw
  have hbw : b < w.heap.size := by omega
  generalize hW : World.alloc _ _ = W0
  have hsz : w.heap.size + 5 = W0.heap.size := by rw [← hW]; simp
  have hB0 : Below w.heap.size w W0 := by rw [← hW]; exact (((((Below.refl _ w).alloc (Nat.le_refl _) _).alloc (by simp) _).alloc (by simp; omega) _).alloc (by simp; omega) _).alloc (by simp; omega) _
  have f0 : W0.cell? ⟨w.heap.size, 0, none⟩ = some (.pointer (some ⟨b, 0, none⟩)) := by rw [← hW]; simp [go_sem]
  have f1 : W0.cell? ⟨w.heap.size + 1, 0, none⟩ = some (.int .i64 s) := by rw [← hW]; simp [go_sem]
  have f2 : W0.cell? ⟨w.heap.size + 1 + 1, 0, none⟩ = some (.bool false) := by rw [← hW]; simp [go_sem]
  have f3 : W0.frozen? ⟨w.heap.size + 1 + 1, 0, none⟩ = false := by rw [← hW]; simp [go_sem]
  have f4 : W0.cell? ⟨w.heap.size + 1 + 1 + 1, 0, none⟩ = some (.pointer (some ⟨b, 0, none⟩)) := by rw [← hW]; simp [go_sem]
  have f5 : W0.cell? ⟨w.heap.size + 1 + 1 + 1 + 1, 0, none⟩ = some (.int .i64 c) := by rw [← hW]; simp [go_sem]
  have hCn : Cn (w.heap.size + 1 + 1 + 1) (w.heap.size + 1 + 1 + 1 + 1) b g.wd g.hs.length hcap c ha W0 := ⟨f4, f5, cell_below hB0 hc0 hbw, cell_below hB0 hc1 hbw⟩
  clear hW
  refine wp_range (xs := nbrL g.wd g.ss.length c) rfl (enters_of Try.func98 (by kernel_rfl) rfl) (Cn (w.heap.size + 1 + 1 + 1) (w.heap.size + 1 + 1 + 1 + 1) b g.wd g.hs.length hcap c ha)
    (by rw [← hg.hn]; exact nbr_iter hg.w0 hg.w1 (by have := hg.n1; have := hg.hn; omega) (by have := hg.n1; omega) hCn)
    (fun pre W => (∀ x ∈ pre, g.ss.getD x.toNat 0 ≠ s) ∧ Cn (w.heap.size + 1 + 1 + 1) (w.heap.size + 1 + 1 + 1 + 1) b g.wd g.hs.length hcap c ha W ∧ W.cell? ⟨w.heap.size, 0, none⟩ = some (.pointer (some ⟨b, 0, none⟩)) ∧
      W.cell? ⟨w.heap.size + 1, 0, none⟩ = some (.int .i64 s) ∧ W.cell? ⟨w.heap.size + 1 + 1, 0, none⟩ = some (.bool false) ∧ W.frozen? ⟨w.heap.size + 1 + 1, 0, none⟩ = false ∧ Below w.heap.size w W)
    (fun j pre W => j = .ret ∧ (∃ x ∈ pre, g.ss.getD x.toNat 0 = s) ∧ W.cell? ⟨w.heap.size + 1 + 1, 0, none⟩ = some (.bool true) ∧ Below w.heap.size w W)
    (fun _ _ h => h.2.1) (fun _ _ h hs => h.steady hs) ?sI ?sX ⟨by simp, hCn, f0, f1, f2, f3, hB0⟩
    (fun x => { tmps := #[.pointer (some ⟨b, 0, none⟩), .int .i64 c, .int .i64 s, .pointer (some ⟨w.heap.size, 0, none⟩), undef, .pointer (some ⟨w.heap.size + 1, 0, none⟩), .pointer (some ⟨w.heap.size + 1 + 1, 0, none⟩), .int .i64 x,
      .pointer (some ⟨b, 0, none⟩), .int .i64 c, .func (.func 98) #[] #[.pointer (some ⟨w.heap.size + 1 + 1 + 1, 0, none⟩), .pointer (some ⟨w.heap.size + 1 + 1 + 1 + 1, 0, none⟩)], .int .i64 x,
      undef, undef, undef, undef, undef, undef, undef, undef, undef, undef], defers := [] }) ?assign ?body ?done ?stop
  case sI => exact fun _ _ _ h hs => ⟨h.1, h.2.1.steady hs, hs.cell h.2.2.1, hs.cell h.2.2.2.1, hs.cell h.2.2.2.2.1, (hs.frozen h.2.2.2.2.1).trans h.2.2.2.2.2.1, h.2.2.2.2.2.2.steady hs (by omega) h.2.2.2.2.2.2.size⟩
  case sX => exact fun _ _ _ _ h hs => ⟨h.1, h.2.1, hs.cell h.2.2.1, h.2.2.2.steady hs (by omega) h.2.2.2.size⟩
  case assign =>
    intro l x W K hK
    gi_wp2
    exact hK
  case body =>
    rintro l pre x W hx ⟨i0, iC, i1, i2, i3, i4, iB⟩
    obtain ⟨k, rfl, hk⟩ := mem_nbrL hg.w0 hg.dv hc hx
    obtain ⟨sb, soff, rfl, hsb, hsc⟩ := hsa (ints_ne (by omega))
    have hcell : W.cell? ⟨sb, soff + k, none⟩ = some (.int .i64 (g.ss[k]?.getD 0)) := cell_below iB (hsc k _ (ints_at' _ _ hk)) (by simp; omega)
    have hsv : W.cell? ⟨b, 2, none⟩ = some (.slice (some ⟨sb, soff, none⟩) g.ss.length scap) := cell_below iB hc2 hbw
    clear hsc hx hCn f0 f1 f2 f3 f4 f5 hc0 hc1 hc2 hha
    refine wpIn_block ?_
    refine wpIn_seq_k (fun K1 hK1 => ?_)
    have hC : (fun W => W.cell? ⟨w.heap.size, 0, none⟩ = some (.pointer (some ⟨b, 0, none⟩)) ∧ W.cell? ⟨b, 2, none⟩ = some (.slice (some ⟨sb, soff, none⟩) g.ss.length scap) ∧ W.cell? ⟨sb, soff + k, none⟩ = some (.int .i64 (g.ss[k]?.getD 0)) ∧ W.cell? ⟨w.heap.size + 1, 0, none⟩ = some (.int .i64 s)) W.drew := ⟨i1, hsv, hcell, i2⟩
    refine Lim.regC (fun W => W.cell? ⟨w.heap.size, 0, none⟩ = some (.pointer (some ⟨b, 0, none⟩)) ∧ W.cell? ⟨b, 2, none⟩ = some (.slice (some ⟨sb, soff, none⟩) g.ss.length scap) ∧ W.cell? ⟨sb, soff + k, none⟩ = some (.int .i64 (g.ss[k]?.getD 0)) ∧ W.cell? ⟨w.heap.size + 1, 0, none⟩ = some (.int .i64 s)) [] #[false, false, false, false, false, false, false, false, false, false] (by kernel_rfl) rfl ?_
    refine Lim.stepR 0 (fun _ => trivial) rfl (by kernel_rfl) (fun _ _ _ _ h => h) hC rfl ?_; apply Exists.intro; refine ⟨?_, ?_⟩
    · rintro w ⟨r1, r2, r3, r4⟩; go_simp; try with_reducible rfl
    simp only [Act.put, List.setIfInBounds_toArray, List.set_cons_succ, List.set_cons_zero]
    refine Lim.stepR 1 (fun _ => trivial) rfl (by kernel_rfl) (fun _ _ _ _ h => h) hC rfl ?_; apply Exists.intro; refine ⟨?_, ?_⟩
    · rintro w ⟨r1, r2, r3, r4⟩; go_simp; try with_reducible rfl
    simp only [Act.put, List.setIfInBounds_toArray, List.set_cons_succ, List.set_cons_zero]
    refine Lim.stepR 2 (fun _ => trivial) rfl (by kernel_rfl) (fun _ _ _ _ h => h) hC rfl ?_; apply Exists.intro; refine ⟨?_, ?_⟩
    · rintro w ⟨r1, r2, r3, r4⟩; go_simp; try with_reducible rfl
    simp only [Act.put, List.setIfInBounds_toArray, List.set_cons_succ, List.set_cons_zero]
    refine Lim.stepR 3 (fun _ => trivial) rfl (by kernel_rfl) (fun _ _ _ _ h => h) hC rfl ?_; apply Exists.intro; refine ⟨?_, ?_⟩
    · rintro w ⟨r1, r2, r3, r4⟩; go_simp; try with_reducible rfl
    simp only [Act.put, List.setIfInBounds_toArray, List.set_cons_succ, List.set_cons_zero]
    refine Lim.stepR 4 (fun _ => trivial) rfl (by kernel_rfl) (fun _ _ _ _ h => h) hC rfl ?_; apply Exists.intro; refine ⟨?_, ?_⟩
    · rintro w ⟨r1, r2, r3, r4⟩; go_simp; try with_reducible rfl
    simp only [Act.put, List.setIfInBounds_toArray, List.set_cons_succ, List.set_cons_zero]
    refine Lim.stepR 5 (fun _ => trivial) rfl (by kernel_rfl) (fun _ _ _ _ h => h) hC rfl ?_; apply Exists.intro; refine ⟨?_, ?_⟩
    · rintro w ⟨r1, r2, r3, r4⟩; go_simp; try with_reducible rfl
    simp only [Act.put, List.setIfInBounds_toArray, List.set_cons_succ, List.set_cons_zero]
    refine Lim.stepR 6 (fun _ => trivial) rfl (by kernel_rfl) (fun _ _ _ _ h => h) hC rfl ?_; apply Exists.intro; refine ⟨?_, ?_⟩
    · rintro w ⟨r1, r2, r3, r4⟩; go_simp; try with_reducible rfl
    simp only [Act.put, List.setIfInBounds_toArray, List.set_cons_succ, List.set_cons_zero]
    refine Lim.stepR 7 (fun _ => trivial) rfl (by kernel_rfl) (fun _ _ _ _ h => h) hC rfl ?_; apply Exists.intro; refine ⟨?_, ?_⟩
    · rintro w ⟨r1, r2, r3, r4⟩; go_simp; try with_reducible rfl
    simp only [Act.put, List.setIfInBounds_toArray, List.set_cons_succ, List.set_cons_zero]
    refine Lim.stepR 8 (fun _ => trivial) rfl (by kernel_rfl) (fun _ _ _ _ h => h) hC rfl ?_; apply Exists.intro; refine ⟨?_, ?_⟩
    · rintro w ⟨r1, r2, r3, r4⟩; go_simp; try with_reducible rfl
    simp only [Act.put, List.setIfInBounds_toArray, List.set_cons_succ, List.set_cons_zero]
    refine Lim.stepR 9 (fun _ => trivial) rfl (by kernel_rfl) (fun _ _ _ _ h => h) hC rfl ?_; apply Exists.intro; refine ⟨?_, ?_⟩
    · rintro w ⟨r1, r2, r3, r4⟩; go_simp; try with_reducible rfl
    simp only [Act.put, List.setIfInBounds_toArray, List.set_cons_succ, List.set_cons_zero]
    refine Lim.stepD (by kernel_rfl) ?_
    refine hK1 _ _ ?_
    refine wpIn_cond_split rfl (fun h => ?_) (fun h => ?_)
    · have he : g.ss.getD k 0 = s := by simpa [hk] using h
      gi_wp2
      exact ⟨(KeepsOthers.trans (KeepsOthers.drew W) (KeepsOthers.setCell _ _ _)).from _, rfl, ⟨k, by simp, by simpa using he⟩, World.cell?_setCell_same' _ _ _ (by first | (rw [show W.drew.cell? _ = _ from i3]; rfl) | (rw [i3]; rfl)), (iB.drew).setCell (p := ⟨w.heap.size + 1 + 1, 0, none⟩) (by simp; omega) _⟩
    · have he : g.ss.getD k 0 ≠ s := by simpa [hk] using h
      gi_wp2
      refine ⟨(KeepsOthers.drew W).from _, ?_, iC, i1, i2, i3, i4, iB.drew⟩
      intro x hx
      rcases List.mem_append.1 hx with hx | hx
      · exact i0 x hx
      · obtain rfl : x = k := by simpa using hx
        simpa using he
  case done =>
    rintro D W hD ⟨i0, iC, i1, i2, i3, i4, iB⟩ hDk
    go_wp2
    have hk := (KeepsOthers.setCell W ⟨w.heap.size + 1 + 1, 0, none⟩ (.bool false)).same D _ hDk rfl
    refine leaves_marks (B := W0.heap.size) _ ⟨[D], rfl, by simp, by simpa using ⟨hD, hk⟩⟩ (fun w' hs => ⟨.bool false, ?_, by rw [atB_false i0], ?_⟩)
    · have := hs.cell (World.cell?_setCell_same' W ⟨w.heap.size + 1 + 1, 0, none⟩ (.bool false) (by rw [i3]; rfl))
      simp [results, Try.f70, go_sem, this]
    · exact (iB.setCell (p := ⟨w.heap.size + 1 + 1, 0, none⟩) (by simp; omega) _).steady hs (by omega) (by have := iB.size; simp [World.setCell]; omega)
  case stop =>
    rintro D j pre W hD hpre ⟨rfl, ⟨x, hx, hxs⟩, i3, iB⟩ hDk
    go_wp2
    refine leaves_marks (B := W0.heap.size) _ ⟨[D], rfl, by simp, by simpa using ⟨hD, hDk⟩⟩ (fun w' hs => ⟨.bool true, ?_, by rw [atB_true hpre hx hxs], ?_⟩)
    · have := hs.cell i3
      simp [results, Try.f70, go_sem, this]
    · exact iB.steady hs (by omega) iB.size

end Go.Proofs.Ytohjinbgbfggcaa.Rg
