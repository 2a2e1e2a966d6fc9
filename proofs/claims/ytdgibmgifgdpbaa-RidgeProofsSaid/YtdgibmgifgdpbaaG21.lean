/-
  Parts of the proof, in the order in which they build: LawE.
-/
import Derived.Test.YtdgibmgifgdpbaaG18
import Derived.Test.YtdgibmgifgdpbaaG20
set_option linter.unusedVariables false
set_option linter.unusedSimpArgs false
namespace Go.Proofs.Ytdgibmgifgdpbaa
open Go.RowKit Go.Shelf
open Lim

/-- what holds while the statement clones what it was given, in whatever order memory is laid -/
structure GrQ (w : World) (wd : Int) (hv sv : Value) (hs : List (Int × Int)) (ss T U : List Int) (done : Nat → Bool) (x9 x10 x11 x12 x47 x49 x51 x53 : Value) (W : World) : Prop where
  c : Below w.heap.size w W ∧ w.heap.size < W.heap.size ∧ W.cell? ⟨w.heap.size, 0, none⟩ = some (.int .i64 wd) ∧ W.cell? ⟨w.heap.size, 1, none⟩ = some hv ∧ W.cell? ⟨w.heap.size, 2, none⟩ = some sv
  d1 : done 1 = true → Gr W w.heap.size wd hs ss x47
  d3 : done 3 = true → Gl W w.heap.size T x49
  d5 : done 5 = true → Gl W w.heap.size U x51
  d7 : done 7 = true → Gr W w.heap.size wd hs ss x53
  d8 : done 8 = true → Bx W w.heap.size 25 x9
  d9 : done 9 = true → Bx W w.heap.size 28 x12
  d10 : done 10 = true → (done 1 = true ∧ done 8 = true) ∧ Fu W w.heap.size 25 x9 x47
  d11 : done 11 = true → done 3 = true ∧ x10 = x49
  d12 : done 12 = true → done 5 = true ∧ x11 = x51
  d13 : done 13 = true → (done 7 = true ∧ done 9 = true) ∧ Fu W w.heap.size 28 x12 x53
theorem GrQ.grow {w : World} {wd : Int} {hv sv : Value} {hs : List (Int × Int)} {ss T U : List Int} {done : Nat → Bool} {x9 x10 x11 x12 x47 x49 x51 x53 : Value} {W W' : World} (H : GrQ w wd hv sv hs ss T U done x9 x10 x11 x12 x47 x49 x51 x53 W) (hb : Below W.heap.size W W') :
    GrQ w wd hv sv hs ss T U done x9 x10 x11 x12 x47 x49 x51 x53 W' :=
  ⟨⟨H.c.1.trans (hb.mono H.c.1.size), Nat.lt_of_lt_of_le H.c.2.1 hb.size, cell_on hb H.c.2.2.1, cell_on hb H.c.2.2.2.1, cell_on hb H.c.2.2.2.2⟩, fun h => (H.d1 h).grow hb, fun h => (H.d3 h).grow hb, fun h => (H.d5 h).grow hb, fun h => (H.d7 h).grow hb, fun h => (H.d8 h).grow hb, fun h => (H.d9 h).grow hb,
   fun h => ⟨(H.d10 h).1, (H.d10 h).2.grow hb⟩, H.d11, H.d12, fun h => ⟨(H.d13 h).1, (H.d13 h).2.grow hb⟩⟩
/-- the saddle's place, a crossing and a ridge -/
structure GT (ps : Nat) (x y : Int) (vc : Value) (xs : List Int) (vr : Value) (ys : List Int) (W : World) : Prop where
  p : W.cell? ⟨ps, 0, none⟩ = some (.int .i64 x) ∧ W.cell? ⟨ps, 1, none⟩ = some (.int .i64 y)
  c : RS W.heap.size W vc xs.length (ints xs)
  r : RS W.heap.size W vr ys.length (ints ys)
theorem GT.grow {ps : Nat} {x y : Int} {vc vr : Value} {xs ys : List Int} {W W' : World} (H : GT ps x y vc xs vr ys W) (hb : Below W.heap.size W W') : GT ps x y vc xs vr ys W' :=
  ⟨⟨cell_on hb H.p.1, cell_on hb H.p.2⟩, (H.c.below hb).mono hb.size, (H.r.below hb).mono hb.size⟩
theorem RS.grow {W W' : World} {v : Value} {n : Nat} {xs : List Value} (h : RS W.heap.size W v n xs) (hb : Below W.heap.size W W') : RS W'.heap.size W' v n xs := (h.below hb).mono hb.size
theorem owns_cap {w : World} {base e size n : Nat} {v : Value} {xs : List Value} (h : w.ownsRow base e size v n xs) : ∃ a cap, v = .slice a n cap ∧ n ≤ cap := by
  rcases h.2 with ⟨rfl, rfl⟩ | ⟨g, cap, cur, rfl, hB, hg, hn, hm, r⟩
  · exact ⟨none, 0, rfl, Nat.le_refl _⟩
  · exact ⟨_, cap, rfl, hn⟩
theorem ints_one (l : List Int) : ∀ u ∈ ints l, u.oneCell' = true := by
  intro u hu
  obtain ⟨x, -, rfl⟩ := List.mem_map.1 hu
  rfl
theorem nodup_short : ∀ (n : Nat) (L : List Nat), L.Nodup → (∀ c ∈ L, c < n) → L.length ≤ n
  | 0, L, _, h => by
    cases L with
    | nil => simp
    | cons a l => exact absurd (h a (by simp)) (by omega)
  | n + 1, L, hn, h => by
    by_cases hm : n ∈ L
    · have h1 := nodup_short n (L.erase n) (hn.erase n) (fun c hc => by
        have h2 := (hn.mem_erase_iff).1 hc
        have := h c h2.2
        have := h2.1
        omega)
      rw [List.length_erase_of_mem hm] at h1
      omega
    · have := nodup_short n L hn (fun c hc => by
        have h1 := h c hc
        by_cases e : c = n
        · subst e; exact absurd hc hm
        · omega)
      omega

set_option maxRecDepth 20000 in
set_option maxHeartbeats 8000000 in
theorem proofs_any {B : Nat} {wd ht : Int} {hv sv tv uv : Value} {hs : List (Int × Int)} {ss T U : List Int} {w : World} (hB : B ≤ w.heap.size) (hh : RS B w hv hs.length (spans hs)) (hss : RS B w sv ss.length (ints ss)) (htv : RS B w tv T.length (ints T)) (huv : RS B w uv U.length (ints U)) :
    Calls Try.prog 10 #[.agg #[.int .i64 wd, hv, sv], tv, uv, .int .i64 ht] w fun e w' => e = .returned (.bool true) ∧ Below w.heap.size w w' := by
  have B0 : Below w.heap.size w (w.alloc (.cells #[.int .i64 wd, hv, sv] 25)) := (Below.refl _ w).alloc (Nat.le_refl _) _
  have CG := Lib.hid (great_any (B := B) (wd := wd) (w := w.alloc (.cells #[.int .i64 wd, hv, sv] 25)) (hh.below (B0.mono hB)) (hss.below (B0.mono hB)))
  have HHS := Lib.hid (And.intro hh (And.intro hss (And.intro htv huv)))
  have HB := Lib.hid hB
  obtain ⟨ha, hcap, rfl, -⟩ := hh
  obtain ⟨sa, scap, rfl, -⟩ := hss
  obtain ⟨ta, tcap, rfl, -⟩ := htv
  obtain ⟨ua, ucap, rfl, -⟩ := huv
  clear hB
  go_enter Try.func10, Try.ntmps10
  have H0 : GrQ w wd (.slice ha hs.length hcap) (.slice sa ss.length scap) hs ss T U (fun _ => false) undef undef undef undef undef undef undef undef (w.alloc (.cells #[.int .i64 wd, .slice ha hs.length hcap, .slice sa ss.length scap] 25)) :=
    ⟨⟨B0, by simp, by simp [go_sem], by simp [go_sem], by simp [go_sem]⟩, fun h => (by cases h), fun h => (by cases h), fun h => (by cases h), fun h => (by cases h), fun h => (by cases h), fun h => (by cases h), fun h => (by cases h), fun h => (by cases h), fun h => (by cases h), fun h => (by cases h)⟩
  have HH0 := Lib.hid H0
  clear H0 B0
  go_wp2_with fail
  refine CG.out.mono ?_
  clear CG
  rintro e w1 ⟨⟨b, rfl, hgb⟩, hb⟩
  have HH1 := Lib.hid (HH0.out.grow hb)
  have HGB := Lib.hid hgb
  clear HH0 hb hgb
  cases b with
  | true =>
    go_wp2_with fail
    refine (awake_any _).mono ?_
    rintro e w2 ⟨rfl, hb2⟩
    have HB2 := Lib.hid (HH1.out.c.1.trans (hb2.mono HH1.out.c.1.size))
    clear hb2
    go_wp2
    go_ret
    exact ⟨rfl, HB2.out⟩
  | false =>
    have HL := Lib.hid (HGB.out rfl)
    clear HGB
    by_cases htl : (110 : Int) < (T.length : Nat) ∨ (110 : Int) < (U.length : Nat)
    · have hdd : (decide ((110 : Int) < (T.length : Nat)) = true) ∨ (decide ((110 : Int) < (T.length : Nat)) = false ∧ decide ((110 : Int) < (U.length : Nat)) = true) := by
        by_cases h : (110 : Int) < (T.length : Nat)
        · exact .inl (by simpa using h)
        · exact .inr ⟨by simpa using h, by rcases htl with h1 | h1; exact absurd h1 h; simpa using h1⟩
      clear htl
      rcases hdd with d1 | ⟨d1, d2⟩
      · go_wp2_with fail
        refine (awake_any _).mono ?_
        rintro e w2 ⟨rfl, hb2⟩
        have HB2 := Lib.hid (HH1.out.c.1.trans (hb2.mono HH1.out.c.1.size))
        clear hb2
        go_wp2
        go_ret
        exact ⟨rfl, HB2.out⟩
      · go_wp2_with fail
        refine (awake_any _).mono ?_
        rintro e w2 ⟨rfl, hb2⟩
        have HB2 := Lib.hid (HH1.out.c.1.trans (hb2.mono HH1.out.c.1.size))
        clear hb2
        go_wp2
        go_ret
        exact ⟨rfl, HB2.out⟩
    · have d1 : decide ((110 : Int) < (T.length : Nat)) = false := by simp; omega
      have d2 : decide ((110 : Int) < (U.length : Nat)) = false := by simp; omega
      have HTL : Hid (T.length ≤ 110) := Lib.hid (by omega)
      have HUL : Hid (U.length ≤ 110) := Lib.hid (by omega)
      clear htl
      have hC : (fun W => W.cell? ⟨w.heap.size, 0, none⟩ = some (.int .i64 wd) ∧ W.cell? ⟨w.heap.size, 1, none⟩ = some (.slice ha hs.length hcap) ∧ W.cell? ⟨w.heap.size, 2, none⟩ = some (.slice sa ss.length scap)) w1.drew := (HH1.out.grow (Below.refl _ w1).drew).c.2.2
      have HH2 := Lib.hid (HH1.out.grow (Below.refl _ w1).drew)
      go_wp2_with fail
      refine Lim.regC' (fun W => W.cell? ⟨w.heap.size, 0, none⟩ = some (.int .i64 wd) ∧ W.cell? ⟨w.heap.size, 1, none⟩ = some (.slice ha hs.length hcap) ∧ W.cell? ⟨w.heap.size, 2, none⟩ = some (.slice sa ss.length scap)) [] #[false, false, false, false, false, false, false, false, false, false, false, false, false, false] (by kernel_rfl) rfl ?_
      refine Lim.stepR 0 (fun _ => trivial) rfl (by kernel_rfl) (fun _ _ _ _ h => h) hC rfl ?_; apply Exists.intro; refine ⟨?_, ?_⟩
      · rintro w ⟨r1, r2, r3⟩; go_simp; try with_reducible rfl
      simp only [Act.put, List.setIfInBounds_toArray, List.set_cons_succ, List.set_cons_zero]
      refine Lim.stepR 2 (fun _ => trivial) rfl (by kernel_rfl) (fun _ _ _ _ h => h) hC rfl ?_; apply Exists.intro; refine ⟨?_, ?_⟩
      · rintro w ⟨r1, r2, r3⟩; go_simp; try with_reducible rfl
      simp only [Act.put, List.setIfInBounds_toArray, List.set_cons_succ, List.set_cons_zero]
      refine Lim.stepR 4 (fun _ => trivial) rfl (by kernel_rfl) (fun _ _ _ _ h => h) hC rfl ?_; apply Exists.intro; refine ⟨?_, ?_⟩
      · rintro w ⟨r1, r2, r3⟩; go_simp; try with_reducible rfl
      simp only [Act.put, List.setIfInBounds_toArray, List.set_cons_succ, List.set_cons_zero]
      refine Lim.stepR 6 (fun _ => trivial) rfl (by kernel_rfl) (fun _ _ _ _ h => h) hC rfl ?_; apply Exists.intro; refine ⟨?_, ?_⟩
      · rintro w ⟨r1, r2, r3⟩; go_simp; try with_reducible rfl
      simp only [Act.put, List.setIfInBounds_toArray, List.set_cons_succ, List.set_cons_zero]
      clear hC
      refine Lim.parC [1, 3, 5, 7, 8, 9, 10, 11, 12, 13] (fun done a W => ∃ x9 x10 x11 x12 x47 x49 x51 x53, a = { tmps := #[.agg #[.int .i64 wd, .slice ha hs.length hcap, .slice sa ss.length scap], .slice ta T.length tcap, .slice ua U.length ucap, .int .i64 ht, .pointer (some ⟨w.heap.size, 0, none⟩), undef, undef, undef, .bool false, x9, x10, x11, x12, undef, undef, undef, undef, undef, undef, undef, undef, undef, undef, undef, undef, undef, undef, undef, undef, undef, undef, undef, undef, .agg #[.int .i64 wd, .slice ha hs.length hcap, .slice sa ss.length scap], .bool false, .bool false, .slice ta T.length tcap, .int .i64 (T.length : Nat), .bool false, .bool false, .bool false, .slice ua U.length ucap, .int .i64 (U.length : Nat), .bool false, .bool false, undef, .agg #[.int .i64 wd, .slice ha hs.length hcap, .slice sa ss.length scap], x47, .slice ta T.length tcap, x49, .slice ua U.length ucap, x51, .agg #[.int .i64 wd, .slice ha hs.length hcap, .slice sa ss.length scap], x53, undef, undef, undef, undef, undef, undef, undef, undef, undef, undef, undef, undef, undef, undef, undef, undef, undef, undef, undef, undef, undef, undef, undef, undef, undef, undef, undef, undef, undef, undef, undef, undef, undef, undef, undef, undef, undef, undef, undef, undef, undef, undef, undef, undef, undef, undef, undef, undef, undef, undef, undef, undef, undef, undef, undef, undef, undef, undef, undef, undef, undef, undef, undef, undef, undef, undef, undef, undef, undef, undef, undef, undef, undef, undef, undef, undef, undef, undef, undef, undef, undef, undef, undef, undef, undef, undef, undef, undef, undef, undef, undef, undef, undef, undef, undef, undef, undef, undef, undef, undef, undef, undef, undef, undef, undef, undef, undef, undef, undef, undef, undef, undef, undef, undef, undef, undef, undef, undef, undef, undef, undef, undef, undef, undef, undef, undef, undef, undef, undef, undef, undef, undef, undef, undef, undef, undef, undef, undef, undef, undef, undef, undef, undef, undef, undef, undef, undef, undef, undef, undef, undef, undef, undef, undef, undef, undef, undef, undef, undef, undef, undef, undef, undef, undef, undef, undef, undef, undef, undef, undef, undef, undef], defers := [] } ∧ GrQ w wd (.slice ha hs.length hcap) (.slice sa ss.length scap) hs ss T U done x9 x10 x11 x12 x47 x49 x51 x53 W) (fun _ => trivial) (by kernel_rfl) rfl rfl ?hC ?step ?fin ⟨_, _, _, _, _, _, _, _, rfl, HH2.out⟩
      case hC => rintro done a W ⟨_, _, _, _, _, _, _, _, _, H⟩; exact H.c.2.2
      case step =>
        intro i o hi ho done a W hd hdep hS K hK
        obtain ⟨x9, x10, x11, x12, x47, x49, x51, x53, rfl, H⟩ := hS
        simp only [List.mem_cons, List.not_mem_nil, or_false] at hi
        have HBW : B ≤ w.heap.size := HB.out
        rcases hi with rfl | rfl | rfl | rfl | rfl | rfl | rfl | rfl | rfl | rfl
        · cases ho
          have HC := lclone_any (B := B) (wd := wd) (by have := H.c.1.size; omega) (HHS.out.1.below (H.c.1.mono HBW)) (HHS.out.2.1.below (H.c.1.mono HBW)) (by have := HL.out; omega) (by have := HL.out; omega)
          clear hdep d1 d2
          go_simp
          refine ⟨rfl, (callsIn_wide.2 HC).mono ?_⟩
          rintro e W' ⟨hv', sv', rfl, o1, o2, hb⟩
          refine hK _ _ ?_
          have hsz := H.c.1.size
          replace H := H.grow hb
          obtain ⟨aa, cc, rfl, -⟩ := RS.of_owns o1
          obtain ⟨ab, cb, rfl, -⟩ := RS.of_owns o2
          exact ⟨_, _, _, _, _, _, _, _, rfl, ⟨H.c, fun _ => ⟨aa, cc, ab, cb, rfl, owns_mono o1 hsz, owns_mono o2 hsz⟩, fun h => H.d3 (by simpa using h), fun h => H.d5 (by simpa using h), fun h => H.d7 (by simpa using h), fun h => H.d8 (by simpa using h), fun h => H.d9 (by simpa using h), fun h => (by have h := (H.d10 (by simpa using h)).1.1; rw [hd] at h; cases h), fun h => H.d11 (by simpa using h), fun h => H.d12 (by simpa using h), fun h => H.d13 (by simpa using h)⟩⟩
        · cases ho
          have HC := kclone_ints (B := B) (by have := HTL.out; omega) (HHS.out.2.2.1.below (H.c.1.mono HBW))
          clear hdep d1 d2
          go_simp
          refine ⟨rfl, (callsIn_wide.2 HC).mono ?_⟩
          rintro e W' ⟨v, rfl, o1, hb⟩
          refine hK _ _ ?_
          have hsz := H.c.1.size
          replace H := H.grow hb
          obtain ⟨aa, cc, rfl, -⟩ := RS.of_owns o1
          exact ⟨_, _, _, _, _, _, _, _, rfl, ⟨H.c, fun h => H.d1 (by simpa using h), fun _ => ⟨aa, cc, rfl, owns_mono o1 hsz⟩, fun h => H.d5 (by simpa using h), fun h => H.d7 (by simpa using h), fun h => H.d8 (by simpa using h), fun h => H.d9 (by simpa using h), fun h => H.d10 (by simpa using h), fun h => (by have h := (H.d11 (by simpa using h)).1; rw [hd] at h; cases h), fun h => H.d12 (by simpa using h), fun h => H.d13 (by simpa using h)⟩⟩
        · cases ho
          have HC := kclone_ints (B := B) (by have := HUL.out; omega) (HHS.out.2.2.2.below (H.c.1.mono HBW))
          clear hdep d1 d2
          go_simp
          refine ⟨rfl, (callsIn_wide.2 HC).mono ?_⟩
          rintro e W' ⟨v, rfl, o1, hb⟩
          refine hK _ _ ?_
          have hsz := H.c.1.size
          replace H := H.grow hb
          obtain ⟨aa, cc, rfl, -⟩ := RS.of_owns o1
          exact ⟨_, _, _, _, _, _, _, _, rfl, ⟨H.c, fun h => H.d1 (by simpa using h), fun h => H.d3 (by simpa using h), fun _ => ⟨aa, cc, rfl, owns_mono o1 hsz⟩, fun h => H.d7 (by simpa using h), fun h => H.d8 (by simpa using h), fun h => H.d9 (by simpa using h), fun h => H.d10 (by simpa using h), fun h => H.d11 (by simpa using h), fun h => (by have h := (H.d12 (by simpa using h)).1; rw [hd] at h; cases h), fun h => H.d13 (by simpa using h)⟩⟩
        · cases ho
          have HC := lground_any (B := B) (wd := wd) (by have := H.c.1.size; omega) (HHS.out.1.below (H.c.1.mono HBW)) (HHS.out.2.1.below (H.c.1.mono HBW)) (by have := HL.out; omega) (by have := HL.out; omega)
          clear hdep d1 d2
          go_simp
          refine ⟨rfl, (callsIn_wide.2 HC).mono ?_⟩
          rintro e W' ⟨hv', sv', rfl, o1, o2, hb⟩
          refine hK _ _ ?_
          have hsz := H.c.1.size
          replace H := H.grow hb
          obtain ⟨aa, cc, rfl, -⟩ := RS.of_owns o1
          obtain ⟨ab, cb, rfl, -⟩ := RS.of_owns o2
          exact ⟨_, _, _, _, _, _, _, _, rfl, ⟨H.c, fun h => H.d1 (by simpa using h), fun h => H.d3 (by simpa using h), fun h => H.d5 (by simpa using h), fun _ => ⟨aa, cc, ab, cb, rfl, owns_mono o1 hsz, owns_mono o2 hsz⟩, fun h => H.d8 (by simpa using h), fun h => H.d9 (by simpa using h), fun h => H.d10 (by simpa using h), fun h => H.d11 (by simpa using h), fun h => H.d12 (by simpa using h), fun h => (by have h := (H.d13 (by simpa using h)).1.1; rw [hd] at h; cases h)⟩⟩
        · cases ho
          clear hdep d1 d2
          go_simp
          refine hK _ _ ?_
          have hlt := H.c.2.1
          have hn := heap_alloc_new W (.cells #[.int .i64 0, .slice none 0 0, .slice none 0 0] 25)
          have hb : Below W.heap.size W (W.alloc (.cells #[.int .i64 0, .slice none 0 0, .slice none 0 0] 25)) := (Below.refl _ W).alloc (Nat.le_refl _) _
          replace H := H.grow hb
          exact ⟨_, _, _, _, _, _, _, _, rfl, ⟨H.c, fun h => H.d1 (by simpa using h), fun h => H.d3 (by simpa using h), fun h => H.d5 (by simpa using h), fun h => H.d7 (by simpa using h), fun _ => ⟨_, _, _, _, rfl, hlt, hn⟩, fun h => H.d9 (by simpa using h), fun h => (by have h := (H.d10 (by simpa using h)).1.2; rw [hd] at h; cases h), fun h => H.d11 (by simpa using h), fun h => H.d12 (by simpa using h), fun h => H.d13 (by simpa using h)⟩⟩
        · cases ho
          clear hdep d1 d2
          go_simp
          refine hK _ _ ?_
          have hlt := H.c.2.1
          have hn := heap_alloc_new W (.cells #[.int .i64 0, .slice none 0 0, .slice none 0 0] 28)
          have hb : Below W.heap.size W (W.alloc (.cells #[.int .i64 0, .slice none 0 0, .slice none 0 0] 28)) := (Below.refl _ W).alloc (Nat.le_refl _) _
          replace H := H.grow hb
          exact ⟨_, _, _, _, _, _, _, _, rfl, ⟨H.c, fun h => H.d1 (by simpa using h), fun h => H.d3 (by simpa using h), fun h => H.d5 (by simpa using h), fun h => H.d7 (by simpa using h), fun h => H.d8 (by simpa using h), fun _ => ⟨_, _, _, _, rfl, hlt, hn⟩, fun h => H.d10 (by simpa using h), fun h => H.d11 (by simpa using h), fun h => H.d12 (by simpa using h), fun h => (by have h := (H.d13 (by simpa using h)).1.2; rw [hd] at h; cases h)⟩⟩
        · cases ho
          have h1 := hdep 1 (by kernel_rfl) (by simp)
          have h8 := hdep 8 (by kernel_rfl) (by simp)
          clear hdep d1 d2
          obtain ⟨aa, cc, ab, cb, rfl, o1, o2⟩ := H.d1 h1
          obtain ⟨p, u0, u1, u2, rfl, hp, hn⟩ := H.d8 h8
          obtain ⟨⟨k0, k1, k2⟩, f0, f1, f2⟩ := cell_of_heap hn
          go_simp
          refine hK _ _ ?_
          exact ⟨_, _, _, _, _, _, _, _, rfl, ⟨⟨below_set3 _ _ _ H.c.1 (Nat.le_of_lt hp), Nat.lt_of_lt_of_le H.c.2.1 (Nat.le_of_eq (set3_size _ _ _).symm), (cell_set3 _ _ _ (Nat.ne_of_lt hp)).trans H.c.2.2.1, (cell_set3 _ _ _ (Nat.ne_of_lt hp)).trans H.c.2.2.2.1, (cell_set3 _ _ _ (Nat.ne_of_lt hp)).trans H.c.2.2.2.2⟩, fun h => (H.d1 (by simpa using h)).set3 _ _ _ hn (by decide) (by decide), fun h => (H.d3 (by simpa using h)).set3 _ _ _ hn (by decide), fun h => (H.d5 (by simpa using h)).set3 _ _ _ hn (by decide), fun h => (H.d7 (by simpa using h)).set3 _ _ _ hn (by decide) (by decide), fun h => (H.d8 (by simpa using h)).set3 _ _ _ hn, fun h => (H.d9 (by simpa using h)).set3 _ _ _ hn, fun _ => ⟨by simpa using And.intro h1 h8, fu_new hp hn⟩, fun h => H.d11 (by simpa using h), fun h => H.d12 (by simpa using h), fun h => ⟨by simpa using (H.d13 (by simpa using h)).1, (H.d13 (by simpa using h)).2.set3 _ _ _ hn (by decide)⟩⟩⟩
        · cases ho
          have h3 := hdep 3 (by kernel_rfl) (by simp)
          clear hdep d1 d2
          go_simp
          refine hK _ _ ?_
          exact ⟨_, _, _, _, _, _, _, _, rfl, ⟨H.c, fun h => H.d1 (by simpa using h), fun h => H.d3 (by simpa using h), fun h => H.d5 (by simpa using h), fun h => H.d7 (by simpa using h), fun h => H.d8 (by simpa using h), fun h => H.d9 (by simpa using h), fun h => H.d10 (by simpa using h), fun _ => ⟨by simpa using h3, rfl⟩, fun h => H.d12 (by simpa using h), fun h => H.d13 (by simpa using h)⟩⟩
        · cases ho
          have h5 := hdep 5 (by kernel_rfl) (by simp)
          clear hdep d1 d2
          go_simp
          refine hK _ _ ?_
          exact ⟨_, _, _, _, _, _, _, _, rfl, ⟨H.c, fun h => H.d1 (by simpa using h), fun h => H.d3 (by simpa using h), fun h => H.d5 (by simpa using h), fun h => H.d7 (by simpa using h), fun h => H.d8 (by simpa using h), fun h => H.d9 (by simpa using h), fun h => H.d10 (by simpa using h), fun h => H.d11 (by simpa using h), fun _ => ⟨by simpa using h5, rfl⟩, fun h => H.d13 (by simpa using h)⟩⟩
        · cases ho
          have h7 := hdep 7 (by kernel_rfl) (by simp)
          have h9 := hdep 9 (by kernel_rfl) (by simp)
          clear hdep d1 d2
          obtain ⟨aa, cc, ab, cb, rfl, o1, o2⟩ := H.d7 h7
          obtain ⟨p, u0, u1, u2, rfl, hp, hn⟩ := H.d9 h9
          obtain ⟨⟨k0, k1, k2⟩, f0, f1, f2⟩ := cell_of_heap hn
          go_simp
          refine hK _ _ ?_
          exact ⟨_, _, _, _, _, _, _, _, rfl, ⟨⟨below_set3 _ _ _ H.c.1 (Nat.le_of_lt hp), Nat.lt_of_lt_of_le H.c.2.1 (Nat.le_of_eq (set3_size _ _ _).symm), (cell_set3 _ _ _ (Nat.ne_of_lt hp)).trans H.c.2.2.1, (cell_set3 _ _ _ (Nat.ne_of_lt hp)).trans H.c.2.2.2.1, (cell_set3 _ _ _ (Nat.ne_of_lt hp)).trans H.c.2.2.2.2⟩, fun h => (H.d1 (by simpa using h)).set3 _ _ _ hn (by decide) (by decide), fun h => (H.d3 (by simpa using h)).set3 _ _ _ hn (by decide), fun h => (H.d5 (by simpa using h)).set3 _ _ _ hn (by decide), fun h => (H.d7 (by simpa using h)).set3 _ _ _ hn (by decide) (by decide), fun h => (H.d8 (by simpa using h)).set3 _ _ _ hn, fun h => (H.d9 (by simpa using h)).set3 _ _ _ hn, fun h => ⟨by simpa using (H.d10 (by simpa using h)).1, (H.d10 (by simpa using h)).2.set3 _ _ _ hn (by decide)⟩, fun h => H.d11 (by simpa using h), fun h => H.d12 (by simpa using h), fun _ => ⟨by simpa using And.intro h7 h9, fu_new hp hn⟩⟩⟩
      case fin =>
        rintro done a W hall ⟨x9, x10, x11, x12, x47, x49, x51, x53, rfl, H⟩
        obtain ⟨-, hf8⟩ := H.d10 (hall 10 (by simp))
        obtain ⟨-, rfl⟩ := H.d11 (hall 11 (by simp))
        obtain ⟨-, rfl⟩ := H.d12 (hall 12 (by simp))
        obtain ⟨-, hf10⟩ := H.d13 (hall 13 (by simp))
        obtain ⟨a1, c1, a2, c2, rfl, o1, o2⟩ := H.d1 (hall 1 (by simp))
        obtain ⟨a3, c3, rfl, o3⟩ := H.d3 (hall 3 (by simp))
        obtain ⟨a6, c6, rfl, o6⟩ := H.d5 (hall 5 (by simp))
        obtain ⟨a4, c4, a5, c5, rfl, o4, o5⟩ := H.d7 (hall 7 (by simp))
        obtain ⟨p, u0, u1, u2, rfl, hp, e1, hn7⟩ := hf8
        obtain ⟨q, v0, v1, v2, rfl, hq, e2, hn9⟩ := hf10
        simp only [Value.agg.injEq, Array.mk.injEq, List.cons.injEq, and_true] at e1 e2
        obtain ⟨rfl, rfl, rfl⟩ := e1
        obtain ⟨rfl, rfl, rfl⟩ := e2
        have HG : GS w wd (.slice ha hs.length hcap) (.slice sa ss.length scap) hs ss T p q (.slice a1 hs.length c1) (.slice a2 ss.length c2) (.slice a4 hs.length c4) (.slice a5 ss.length c5) (.slice a3 T.length c3) W :=
          ⟨H.c.1, H.c.2.2, (cell_of_heap hn7).1, (cell_of_heap hn9).1, RS.of_owns o1, RS.of_owns o2, RS.of_owns o4, RS.of_owns o5, RS.of_owns o3⟩
        have HG0 := Lib.hid HG
        have HU0 := Lib.hid (RS.of_owns o6)
        clear hall H o1 o2 o3 o4 o5 o6 hn7 hn9 HG HH2 HH1 d1 d2
        obtain ⟨o0, o1, o2⟩ := HG0.out.o
        go_wp2_with fail
        refine (Crosses_any (B := W.heap.size) (by have := HTL.out; omega) (Nat.le_refl _) HG0.out.h1 HG0.out.s1 HG0.out.m).mono ?_
        rintro e W1 ⟨x, y, er, rfl, hb, hca⟩
        have hb2 : Below W1.heap.size W1 (W1.alloc (.cells #[.int .i64 x, .int .i64 y] 54)) := (Below.refl _ _).alloc (Nat.le_refl _) _
        have HG1 := Lib.hid ((HG0.out.grow hb).grow hb2)
        have HU1 := Lib.hid (RS.grow (RS.grow HU0.out hb) hb2)
        have HCA := Lib.hid hca
        have hsp0 := cell_new W1 #[.int .i64 x, .int .i64 y] 54 0 (by simp)
        have hsp1 := cell_new W1 #[.int .i64 x, .int .i64 y] 54 1 (by simp)
        have HPS := Lib.hid (And.intro hsp0 hsp1)
        clear hb hb2 hca o0 o1 o2 HG0 HU0 hsp0 hsp1
        obtain ⟨r0, r1, r2⟩ := HG1.out.r
        go_wp2_with fail
        generalize (W1.alloc (.cells #[.int .i64 x, .int .i64 y] 54)) = W2 at HG1 HU1 HPS r0 r1 r2 ⊢
        refine (rcrosses_any (B := W2.heap.size) (xs := T) (by have := HTL.out; omega) (Nat.le_refl _) HG1.out.h2 HG1.out.s2 ((HHS.out.2.2.1.below (HG1.out.b.mono HB.out)).mono (by have h1 := HB.out; have h2 := HG1.out.b.size; omega))).mono ?_
        rintro e W3 ⟨x', y', er', rfl, hb, hcb⟩
        obtain ⟨rfl, rfl, rfl⟩ := HCA.out.unique hcb
        have hb2 : Below W3.heap.size W3 (W3.alloc (.cells #[.int .i64 x, .int .i64 y] 54)) := (Below.refl _ _).alloc (Nat.le_refl _) _
        have HG2 := Lib.hid ((HG1.out.grow hb).grow hb2)
        have HU2 := Lib.hid (RS.grow (RS.grow HU1.out hb) hb2)
        have hsp0 := cell_on hb2 (cell_on hb HPS.out.1)
        have hsp1 := cell_on hb2 (cell_on hb HPS.out.2)
        have hsq0 := cell_new W3 #[.int .i64 x, .int .i64 y] 54 0 (by simp)
        have hsq1 := cell_new W3 #[.int .i64 x, .int .i64 y] 54 1 (by simp)
        clear hb hb2 hcb HG1 HU1 HPS r0 r1 r2 HCA
        obtain ⟨o0, o1, o2⟩ := HG2.out.o
        have hxx : (x == x) = true := by simp
        have hyy : (y == y) = true := by simp
        have hee : (er != er) = false := by simp
        go_wp2_with fail
        clear hsp0 hsp1 hsq0 hsq1 hxx hyy hee
        generalize (W3.alloc (.cells #[.int .i64 x, .int .i64 y] 54)) = W4 at HG2 HU2 o0 o1 o2 ⊢
        refine (Parts_any (B := W4.heap.size) (xs := U) (by have := HUL.out; omega) (Nat.le_refl _) HG2.out.h1 HG2.out.s1 HU2.out).mono ?_
        rintro e W5 ⟨d, ep, rfl, hb, hpa⟩
        have HG3 := Lib.hid (HG2.out.grow hb)
        have HU3 := Lib.hid (RS.grow HU2.out hb)
        have HPA := Lib.hid hpa
        clear hb hpa o0 o1 o2 HG2 HU2
        obtain ⟨r0, r1, r2⟩ := HG3.out.r
        go_wp2_with fail
        refine (rparts_any (B := W5.heap.size) (xs := U) (by have := HUL.out; omega) (Nat.le_refl _) HG3.out.h2 HG3.out.s2 ((HHS.out.2.2.2.below (HG3.out.b.mono HB.out)).mono (by have h1 := HB.out; have h2 := HG3.out.b.size; omega))).mono ?_
        rintro e W6 ⟨d', ep', rfl, hb, hpb⟩
        obtain ⟨rfl, rfl⟩ := HPA.out.unique hpb
        have HG4 := Lib.hid (HG3.out.grow hb)
        have HU4 := Lib.hid (RS.grow HU3.out hb)
        clear hb hpb HG3 HU3 HPA r0 r1 r2
        obtain ⟨o0, o1, o2⟩ := HG4.out.o
        have hdd : (d != d) = false := by simp
        have hee : (ep != ep) = false := by simp
        go_wp2_with fail
        clear hdd hee
        refine (Crossing_any (B := W6.heap.size) (Nat.le_refl _) HG4.out.h1 HG4.out.s1).mono ?_
        rintro e W7 ⟨vc, x, y, er, rfl, hb, hsa, hnil, hway⟩
        have HG5 := Lib.hid (HG4.out.grow hb)
        have HU5 := Lib.hid (RS.grow HU4.out hb)
        have HSA := Lib.hid hsa
        have HCW := Lib.hid (And.intro hnil hway)
        clear hb hsa hnil hway HG4 HU4 o0 o1 o2
        obtain ⟨o0, o1, o2⟩ := HG5.out.o
        go_wp2_with fail
        refine (Ridge_any (B := W7.heap.size) (Nat.le_refl _) HG5.out.h1 HG5.out.s1).mono ?_
        rintro e W8 ⟨vr, x', y', er', L2, rfl, hb, hsb, hown, hnil2, hinv⟩
        obtain ⟨rfl, rfl, rfl⟩ := HSA.out.unique hsb
        have HG6 := Lib.hid (HG5.out.grow hb)
        have HU6 := Lib.hid (RS.grow HU5.out hb)
        have HB8 := Lib.hid hb
        have HRR := Lib.hid (RS.of_owns hown)
        have HCP0 := Lib.hid (owns_cap hown)
        have HRI := Lib.hid (And.intro hnil2 hinv)
        clear hb hsb hown hnil2 hinv HG5 HU5 o0 o1 o2
        obtain ⟨r0, r1, r2⟩ := HG6.out.r
        go_wp2_with fail
        refine (rsaddle_any (B := W8.heap.size) (Nat.le_refl _) HG6.out.h2 HG6.out.s2).mono ?_
        rintro e W9 ⟨x', y', er', rfl, hsb, hb⟩
        obtain ⟨rfl, rfl, rfl⟩ := HSA.out.unique hsb
        have hb2 : Below W9.heap.size W9 (W9.alloc (.cells #[.int .i64 x, .int .i64 y] 54)) := (Below.refl _ _).alloc (Nat.le_refl _) _
        have HG7 := Lib.hid ((HG6.out.grow hb).grow hb2)
        have HU7 := Lib.hid (RS.grow (RS.grow HU6.out hb) hb2)
        have hsp0 := cell_new W9 #[.int .i64 x, .int .i64 y] 54 0 (by simp)
        have hsp1 := cell_new W9 #[.int .i64 x, .int .i64 y] 54 1 (by simp)
        have HPS := Lib.hid (And.intro hsp0 hsp1)
        have HR2 := Lib.hid (RS.grow (RS.grow HRR.out hb) hb2)
        have HB79 := Lib.hid ((HB8.out.trans (hb.mono HB8.out.size)).trans (hb2.mono (Nat.le_trans HB8.out.size hb.size)))
        have hee : (er != er) = false := by simp
        clear hb hb2 hsb HG6 HU6 HRR HB8 r0 r1 r2 hsp0 hsp1
        by_cases he : er = 0
        · subst he
          obtain ⟨L, hL, hown⟩ := HCW.out.2 rfl
          have hRI := HRI.out.2 rfl
          have hSA := HSA.out
          have HX : Hid (SadAns wd hs ss x y 0 ∧ IsWay ⟨wd.toNat, hs, ss⟩ (Low ⟨wd.toNat, hs, ss⟩ (highT ⟨wd.toNat, hs, ss⟩) y) (fun c => atB ⟨wd.toNat, hs, ss⟩ c 1 = true) (fun c => atB ⟨wd.toNat, hs, ss⟩ c 2) L ∧ RInv ⟨wd.toNat, hs, ss⟩ x L2 L2.length) := Lib.hid ⟨hSA, hL, hRI⟩
          have hn100 : ss.length ≤ 100 := (openErr_ok (saddle_range hSA).1).n1
          have hlL : L.length ≤ 100 := by have := nodup_short ss.length L hL.once (fun c hc => (hL.cells c hc).1.1); omega
          have hlL2 : L2.length ≤ 100 := by have h1 : L2.length ≤ ss.length := hRI.short; omega
          have HRC : Hid (RS W7.heap.size W7 vc (nats L).length (ints (nats L))) := Lib.hid (by rw [nats_length]; exact RS.of_owns hown)
          have HGT := Lib.hid (show GT W9.heap.size x y vc (nats L) vr (nats L2) (W9.alloc (.cells #[.int .i64 x, .int .i64 y] 54)) from ⟨HPS.out, (HRC.out.below HB79.out).mono HB79.out.size, by have := HR2.out; rw [nats_length]; exact this⟩)
          have HLL := Lib.hid (And.intro hlL hlL2)
          obtain ⟨psn, hpsn⟩ : ∃ psn, psn = W9.heap.size := ⟨_, rfl⟩
          rw [← hpsn] at HGT
          obtain ⟨ca, cc, rfl, -⟩ := RS.of_owns hown
          obtain ⟨ra, rc, rfl, hcp⟩ := HCP0.out
          have HCP := Lib.hid hcp
          clear hcp HCP0
          clear hL hRI hSA hown HRC HRI HCW HSA HR2 HPS HB79 hn100 hlL hlL2
          obtain ⟨r0, r1, r2⟩ := HG7.out.r
          go_wp2_with fail
          rw [← hpsn]
          clear hpsn hee
          generalize (W9.alloc (.cells #[.int .i64 x, .int .i64 y] 54)) = W10 at HG7 HU7 HGT r0 r1 r2 ⊢
          refine (rcrosses_any (B := W10.heap.size) (xs := nats L) (by rw [nats_length]; have := HLL.out; omega) (Nat.le_refl _) HG7.out.h2 HG7.out.s2 HGT.out.c).mono ?_
          rintro e W11 ⟨xc, yc, ec, rfl, hb, hcc⟩
          obtain ⟨rfl, hyc⟩ := crossing_crosses (saddle_range HX.out.1).1 HX.out.2.1 hcc
          have hb2 : Below W11.heap.size W11 (W11.alloc (.cells #[.int .i64 xc, .int .i64 yc] 54)) := (Below.refl _ _).alloc (Nat.le_refl _) _
          have HG8 := Lib.hid ((HG7.out.grow hb).grow hb2)
          have HU8 := Lib.hid (RS.grow (RS.grow HU7.out hb) hb2)
          have HGT8 := Lib.hid ((HGT.out.grow hb).grow hb2)
          have hsp0 := cell_new W11 #[.int .i64 xc, .int .i64 yc] 54 0 (by simp)
          have hsp1 := cell_new W11 #[.int .i64 xc, .int .i64 yc] 54 1 (by simp)
          have hdy : decide (y < yc) = false := by simp; omega
          obtain ⟨p0, p1⟩ := HGT8.out.p
          clear hb hb2 hcc hyc HG7 HU7 HGT r0 r1 r2
          go_wp2_with fail
          clear hsp0 hsp1 hdy p0 p1
          generalize (W11.alloc (.cells #[.int .i64 xc, .int .i64 yc] 54)) = W12 at HG8 HU8 HGT8 ⊢
          have HLN : Hid (L.length = L.length) := Lib.hid rfl
          go_loopw [150] (fun i wr => ∃ k : Nat, k ≤ L.length ∧ i = .int .i64 k ∧ Hid (Below W12.heap.size W12 wr)) (fun i _ => L.length - (intOf i).toNat)
          case atStart => exact ⟨0, Nat.zero_le _, rfl, Lib.hid (Below.refl _ _)⟩
          case round =>
            obtain ⟨k, hk, rfl, hbr⟩ := hrel
            by_cases hlt : k < L.length
            · have HK := Lib.hid hlt
              go_wp2_with fail
              go_loopw [154] (fun i2 wr2 => ∃ j : Nat, j ≤ k ∧ i2 = .int .i64 j ∧ Hid (Below wr.heap.size wr wr2)) (fun i2 _ => k - (intOf i2).toNat)
              case atStart => exact ⟨0, Nat.zero_le _, rfl, Lib.hid (Below.refl _ _)⟩
              case round =>
                obtain ⟨j, hj, rfl, hbj⟩ := hrel
                by_cases hjk : j < k
                · have hlj : j < L.length := by omega
                  have hjb : (j : Int) < 1000 := by have := HLL.out; omega
                  have HBJ := Lib.hid (hbr.out.trans (hbj.out.mono hbr.out.size))
                  have hcr := (RS.grow HGT8.out.c HBJ.out)
                  obtain ⟨ca', cc', e1, hcr⟩ := hcr
                  obtain ⟨cb, coff, h1, hcb, hcell⟩ := hcr (ints_ne (by rw [nats_length]; omega))
                  have e1' : ca = some ⟨cb, coff, none⟩ := by rw [← h1]; injection e1
                  subst e1'
                  obtain ⟨x1, hx1⟩ : ∃ x1, x1 = L[j] := ⟨_, rfl⟩
                  obtain ⟨x2, hx2⟩ : ∃ x2, x2 = L[k] := ⟨_, rfl⟩
                  have q1 := hcell j (.int .i64 x1) (by rw [ints_at' _ _ (by rw [nats_length]; omega), ← List.getD_eq_getElem?_getD, getD_nats hlj, hx1] <;> rfl)
                  have q2 := hcell k (.int .i64 x2) (by rw [ints_at' _ _ (by rw [nats_length]; omega), ← List.getD_eq_getElem?_getD, getD_nats hlt, hx2] <;> rfl)
                  have hne : ((x1 : Int) == (x2 : Int)) = false := by
                    rw [beq_eq_false_iff_ne]
                    intro e
                    have e : x1 = x2 := by omega
                    rw [hx1, hx2] at e
                    have := (List.getElem_inj HX.out.2.1.once).1 e
                    omega
                  clear hcell hx1 hx2 hcr h1 e1
                  go_wp2_with fail
                  go_quiet (fail)
                  go_wp2_with fail
                  go_roundw
                  case rel => exact ⟨j + 1, by omega, by go_num, Lib.hid (below_drewN hbj.out _)⟩
                  case measure => simp [intOf]; omega
                · obtain rfl : j = k := by omega
                  have hjb : (j : Int) < 1000 := by have := HLL.out; omega
                  go_wp2_with fail
                  go_roundw
                  case rel => exact ⟨j + 1, by omega, by go_num, Lib.hid (hbr.out.trans (hbj.out.mono hbr.out.size))⟩
                  case measure => simp [intOf]; omega
            · obtain rfl : k = L.length := by omega
              have HG9 := Lib.hid (HG8.out.grow hbr.out)
              have HU9 := Lib.hid (RS.grow HU8.out hbr.out)
              have HGT9 := Lib.hid (HGT8.out.grow hbr.out)
              clear hbr HG8 HU8 HGT8
              obtain ⟨r0, r1, r2⟩ := HG9.out.r
              obtain ⟨p0, p1⟩ := HGT9.out.p
              go_wp2_with fail
              refine (rparts_any (B := wr.heap.size) (xs := nats L2) (by rw [nats_length]; have := HLL.out; omega) (Nat.le_refl _) HG9.out.h2 HG9.out.s2 HGT9.out.r).mono ?_
              rintro e W13 ⟨d2, e2, rfl, hb, hpp⟩
              obtain ⟨rfl, rfl⟩ := ridge_parts HX.out.1 HX.out.2.2 hpp
              have HG10 := Lib.hid (HG9.out.grow hb)
              have HU10 := Lib.hid (RS.grow HU9.out hb)
              have HGT10 := Lib.hid (HGT9.out.grow hb)
              clear hb hpp HG9 HU9 HGT9 r0 r1 r2 p0 p1
              go_wp2_with fail
              go_loopw [184] (fun i wr => ∃ k : Nat, k ≤ L2.length ∧ i = .int .i64 k ∧ Hid (Below W13.heap.size W13 wr)) (fun i _ => L2.length - (intOf i).toNat)
              case atStart => exact ⟨0, Nat.zero_le _, rfl, Lib.hid (Below.refl _ _)⟩
              case round =>
                obtain ⟨k, hk, rfl, hbr⟩ := hrel
                by_cases hlt : k < L2.length
                · have hkb : (k : Int) < 1000 := by have := HLL.out; omega
                  have hrr := RS.grow HGT10.out.r hbr.out
                  obtain ⟨ra', rc', e1, hrr⟩ := hrr
                  obtain ⟨rb, roff, h1, hrb, hcell⟩ := hrr (ints_ne (by rw [nats_length]; omega))
                  have e1' : ra = some ⟨rb, roff, none⟩ := by rw [← h1]; injection e1
                  subst e1'
                  have HCELL := Lib.hid hcell
                  have hkc : k ≤ rc := by have := HCP.out; omega
                  have hk1 : k + 1 ≤ L2.length := by omega
                  have hk2 : k + 1 ≤ rc := by have := HCP.out; omega
                  have hrc0 : rc ≠ 0 := by omega
                  have hC : (fun _ : World => True) wr.drew := trivial
                  have ek : IntKind.i64.wrap ((k : Int) + 1) = ((k + 1 : Nat) : Int) := by rw [IntWalk.i64_in _ (by omega)]; omega
                  obtain ⟨r2, hr2⟩ : ∃ r2, r2 = if rc = k + 1 then roff else roff + (k + 1) := ⟨_, rfl⟩
                  have eif : (if rc = k + 1 then (some ⟨rb, roff, none⟩ : Option Addr) else some ⟨rb, roff + (k + 1), none⟩) = some ⟨rb, r2, none⟩ := by rw [hr2]; split <;> rfl
                  have HR2 := Lib.hid hr2
                  have h01 : (0 : Int) ≤ (k : Int) + 1 := by omega
                  have h02 : (k : Int) + 1 ≤ (L2.length : Int) := by omega
                  have CK : Hid (Calls Try.prog 40 #[.slice (some ⟨rb, roff, none⟩) k rc] wr.drew fun e w' => ∃ v', e = .returned v' ∧ w'.ownsRow wr.drew.heap.size 3 1 v' k (ints ((nats L2).take k)) ∧ Below wr.drew.heap.size wr.drew w') := Lib.hid (by
                    have hl : ((nats L2).take k).length = k := by rw [List.length_take, nats_length]; omega
                    have := kclone_ints (B := wr.heap.size) (v := .slice (some ⟨rb, roff, none⟩) k rc) (l := (nats L2).take k) (w := wr.drew) (by omega) ⟨some ⟨rb, roff, none⟩, rc, by rw [hl], fun _ => ⟨rb, roff, rfl, hrb, fun j u hj => by
                      have hj' : (ints (nats L2))[j]? = some u := by
                        unfold ints at hj ⊢
                        rw [List.map_take, List.getElem?_take] at hj
                        split at hj
                        · exact hj
                        · cases hj
                      exact HCELL.out j u hj'⟩⟩
                    rw [hl] at this
                    exact this)
                  have HNW : Hid (∀ W, Below wr.drew.heap.size wr.drew W → ∀ j u, (ints ((nats L2).drop (k + 1)))[j]? = some u → W.cell? ((⟨rb, r2, none⟩ : Addr).add j) = some u) := Lib.hid (fun W hbW j u hj => by
                    have hj2 : (ints (nats L2))[k + 1 + j]? = some u := by
                      unfold ints at hj ⊢
                      rw [List.map_drop, List.getElem?_drop] at hj
                      exact hj
                    have hjl : k + 1 + j < L2.length := by
                      have := (List.getElem?_eq_some_iff.1 hj2).1
                      rw [ints_length, nats_length] at this
                      exact this
                    have e : r2 = roff + (k + 1) := by rw [HR2.out, if_neg (by have := HCP.out; omega)]
                    rw [addr_add, e, Nat.add_assoc]
                    exact cell_on hbW (HCELL.out _ u hj2))
                  obtain ⟨i0, hi, hz0, hz1, hz2⟩ := info_parts Try.infoInt
                  have HI := Lib.hid (And.intro hi (And.intro hz0 (And.intro hz1 hz2)))
                  have HLM : Hid (k + (L2.length - (k + 1)) ≤ 1000) := Lib.hid (by have := HLL.out; omega)
                  have HER : Hid (k + (L2.length - (k + 1)) = (nats (L2.eraseIdx k)).length ∧ ints ((nats L2).take k) ++ ints ((nats L2).drop (k + 1)) = ints (nats (L2.eraseIdx k))) := Lib.hid (by
                    refine ⟨by rw [nats_length, List.length_eraseIdx, if_pos hlt]; omega, ?_⟩
                    rw [← nats_erase, List.eraseIdx_eq_take_drop_succ]
                    unfold ints
                    rw [List.map_append])
                  clear hcell e1 h1 hrr hr2 hi hz0 hz1 hz2
                  go_wp2_with fail
                  refine Lim.regC' (fun _ => True) [] #[false, false, false, false, false, false, false, false, false, false] (by kernel_rfl) rfl ?_
                  refine Lim.stepR 0 (fun _ => trivial) rfl (by kernel_rfl) (fun _ _ _ _ h => h) hC rfl ?_; apply Exists.intro; refine ⟨?_, ?_⟩
                  · rintro w _; go_simp; try with_reducible rfl
                  simp only [Act.put, List.setIfInBounds_toArray, List.set_cons_succ, List.set_cons_zero]
                  refine Lim.stepR 1 (fun _ => trivial) rfl (by kernel_rfl) (fun _ _ _ _ h => h) hC rfl ?_; apply Exists.intro; refine ⟨?_, ?_⟩
                  · rintro w _; go_simp; try with_reducible rfl
                  simp only [Act.put, List.setIfInBounds_toArray, List.set_cons_succ, List.set_cons_zero]
                  refine Lim.stepR 2 (fun _ => trivial) rfl (by kernel_rfl) (fun _ _ _ _ h => h) hC rfl ?_; apply Exists.intro; refine ⟨?_, ?_⟩
                  · rintro w _; go_simp; try with_reducible rfl
                  simp only [Act.put, List.setIfInBounds_toArray, List.set_cons_succ, List.set_cons_zero]
                  refine Lim.stepR 4 (fun _ => trivial) rfl (by kernel_rfl) (fun _ _ _ _ h => h) hC rfl ?_; apply Exists.intro; refine ⟨?_, ?_⟩
                  · rintro w _; go_simp; try with_reducible rfl
                  simp only [Act.put, List.setIfInBounds_toArray, List.set_cons_succ, List.set_cons_zero]
                  refine Lim.stepR 5 (fun _ => trivial) rfl (by kernel_rfl) (fun _ _ _ _ h => h) hC rfl ?_; apply Exists.intro; refine ⟨?_, ?_⟩
                  · rintro w _; go_simp; try with_reducible rfl
                  simp only [Act.put, List.setIfInBounds_toArray, List.set_cons_succ, List.set_cons_zero]
                  refine Lim.stepR 6 (fun _ => trivial) rfl (by kernel_rfl) (fun _ _ _ _ h => h) hC rfl ?_; apply Exists.intro; refine ⟨?_, ?_⟩
                  · rintro w _; go_simp; try with_reducible rfl
                  simp only [Act.put, List.setIfInBounds_toArray, List.set_cons_succ, List.set_cons_zero]
                  refine Lim.stepR 7 (fun _ => trivial) rfl (by kernel_rfl) (fun _ _ _ _ h => h) hC rfl ?_; apply Exists.intro; refine ⟨?_, ?_⟩
                  · rintro w _; go_simp; try with_reducible rfl
                  simp only [Act.put, List.setIfInBounds_toArray, List.set_cons_succ, List.set_cons_zero]
                  refine Lim.stepE 3 (fun _ => trivial) rfl (by kernel_rfl) rfl (fun K hK => ?_)   -- E call
                  go_simp
                  refine ⟨rfl, (callsIn_wide.2 CK.out).mono ?_⟩
                  rintro e W14 ⟨v14, rfl, ho14, hb14⟩
                  have HO14 := Lib.hid ho14
                  have HB14 := Lib.hid hb14
                  clear ho14 hb14 CK
                  refine hK _ _ trivial ?_
                  simp only [Act.put, List.setIfInBounds_toArray, List.set_cons_succ, List.set_cons_zero]
                  refine Lim.stepE 8 (fun _ => trivial) rfl (by kernel_rfl) rfl (fun K hK => ?_)   -- E call
                  obtain ⟨v15, W15, hrun, ho15, hgrow, -⟩ := run_append_own (P := Try.prog) W14 wr.drew.heap.size 23 23 3 i0 (.int .i64 0) 1 8 Try.underlying23 HI.out.1 HI.out.2.1 HI.out.2.2.1 HI.out.2.2.2 rfl (by decide) _ _ _ HO14.out ⟨rb, r2, none⟩ (L2.length - (k + 1)) (rc - (k + 1)) (ints ((nats L2).drop (k + 1))) (by rw [ints_length, List.length_drop, nats_length]; omega) (HNW.out W14 HB14.out) (ints_one _) (by have := HLM.out; unfold maxLen; omega) (by have := HLM.out; omega) HB14.out.size
                  have HB15 : Hid (Below wr.drew.heap.size wr.drew W15) := Lib.hid (HB14.out.grown hgrow HB14.out.size (fun j e => (HO14.out.lt j e).1))
                  have HO15 := Lib.hid ho15
                  clear ho15 hgrow
                  refine Lim.append_upon rfl rfl rfl hrun (hK _ _ trivial ?_)
                  clear hrun
                  simp only [Act.put, List.setIfInBounds_toArray, List.set_cons_succ, List.set_cons_zero]
                  refine Lim.stepR 9 (fun _ => trivial) rfl (by kernel_rfl) (fun _ _ _ _ h => h) hC rfl ?_; apply Exists.intro; refine ⟨?_, ?_⟩
                  · rintro w _; go_simp; try with_reducible rfl
                  simp only [Act.put, List.setIfInBounds_toArray, List.set_cons_succ, List.set_cons_zero]
                  refine Lim.stepD (by kernel_rfl) ?_
                  have HBX := Lib.hid (hbr.out.trans ((drewL HB15.out).mono hbr.out.size))
                  have HFEW : Hid (RS W15.heap.size W15 v15 (nats (L2.eraseIdx k)).length (ints (nats (L2.eraseIdx k)))) := Lib.hid (by
                    have h1 := RS.of_owns HO15.out
                    rw [HER.out.2, HER.out.1] at h1
                    exact h1)
                  have HG12 := Lib.hid (HG10.out.grow HBX.out)
                  have HGT12 := Lib.hid (HGT10.out.grow HBX.out)
                  obtain ⟨r0, r1, r2'⟩ := HG12.out.r
                  obtain ⟨p0, p1⟩ := HGT12.out.p
                  have HLE : Hid ((nats (L2.eraseIdx k)).length ≤ 1000) := Lib.hid (by have h1 := HER.out.1; have h2 := HLM.out; omega)
                  clear hC eif h01 h02 hkc hk1 hk2 hrc0 ek HO14 HB14 HO15 HB15 HNW HER HCELL hrb
                  go_wp2_with fail
                  refine (rparts_any (B := W15.heap.size) (xs := nats (L2.eraseIdx k)) HLE.out (Nat.le_refl _) HG12.out.h2 HG12.out.s2 HFEW.out).mono ?_
                  rintro e W16 ⟨d3, e3, rfl, hb, hpp⟩
                  obtain ⟨rfl, rfl⟩ := ridge_needs HX.out.1 HX.out.2.2 hlt hpp
                  have HBY := Lib.hid (HBX.out.trans (hb.mono HBX.out.size))
                  clear hb hpp HG12 HGT12 r0 r1 r2' p0 p1 HFEW
                  go_wp2_with fail
                  go_roundw
                  case rel => exact ⟨k + 1, by omega, by go_num, HBY⟩
                  case measure => simp [intOf]; omega
                · obtain rfl : k = L2.length := by omega
                  have HG11 := Lib.hid (HG10.out.grow hbr.out)
                  have HU11 := Lib.hid (RS.grow HU10.out hbr.out)
                  clear hbr HG10 HU10 HGT10
                  obtain ⟨o0, o1, o2⟩ := HG11.out.o
                  obtain ⟨g0, g1, g2⟩ := HG11.out.g
                  go_wp2_with fail
                  clear o0 o1 o2 g0 g1 g2
                  refine (same_any (B := wr.heap.size) (B2 := B) (Nat.le_refl _) (by have h1 := HB.out; have h2 := HG11.out.b.size; omega) (by have := HL.out; omega) (by have := HL.out; omega) HG11.out.h1 HG11.out.s1 (HHS.out.1.below (HG11.out.b.mono HB.out)) (HHS.out.2.1.below (HG11.out.b.mono HB.out))).mono ?_
                  rintro e W20 ⟨rfl, hb⟩
                  have HG20 := Lib.hid (HG11.out.grow hb)
                  have HU20 := Lib.hid (RS.grow HU11.out hb)
                  clear hb HG11 HU11
                  go_wp2_with fail
                  refine (equal_ints (B1 := W20.heap.size) (B2 := B) (by have := HTL.out; omega) HG20.out.m (HHS.out.2.2.1.below (HG20.out.b.mono HB.out))).mono ?_
                  rintro e W21 ⟨rfl, hb⟩
                  have HB21 := Lib.hid (HG20.out.b.trans (hb.mono HG20.out.b.size))
                  have HU21 := Lib.hid (RS.grow HU20.out hb)
                  have et : decide (T = T) = true := by simp
                  rw [et]
                  clear et hb HG20 HU20
                  go_wp2_with fail
                  refine (equal_ints (B1 := W21.heap.size) (B2 := B) (by have := HUL.out; omega) HU21.out (HHS.out.2.2.2.below (HB21.out.mono HB.out))).mono ?_
                  rintro e W22 ⟨rfl, hb⟩
                  have HB22 := Lib.hid (HB21.out.trans (hb.mono HB21.out.size))
                  have et : decide (U = U) = true := by simp
                  rw [et]
                  clear et hb HU21 HB21
                  go_wp2_with fail
                  refine (awake_any _).mono ?_
                  rintro e W23 ⟨rfl, hb⟩
                  have HB23 := Lib.hid (HB22.out.trans (hb.mono HB22.out.size))
                  clear hb HB22
                  go_wp2
                  go_ret
                  exact ⟨rfl, HB23.out⟩

        · have he1 : (er != 0) = true := by rw [bne, show (er == 0) = false from by rw [beq_eq_false_iff_ne]; exact he]; rfl
          have he2 : (er == 0) = false := by rw [beq_eq_false_iff_ne]; exact he
          obtain rfl := HCW.out.1 he
          obtain rfl := HRI.out.1 he
          obtain ⟨ra, rc, rfl, -⟩ := HCP0.out
          clear HCP0
          obtain ⟨o0, o1, o2⟩ := HG7.out.o
          obtain ⟨g0, g1, g2⟩ := HG7.out.g
          clear he HRI HCW HSA HR2 HPS HB79
          go_wp2_with fail
          clear o0 o1 o2 g0 g1 g2 he1 he2 hee
          generalize (W9.alloc (.cells #[.int .i64 x, .int .i64 y] 54)) = W13 at HG7 HU7 ⊢
          refine (same_any (B := W13.heap.size) (B2 := B) (Nat.le_refl _) (by have h1 := HB.out; have h2 := HG7.out.b.size; omega) (by have := HL.out; omega) (by have := HL.out; omega) HG7.out.h1 HG7.out.s1 (HHS.out.1.below (HG7.out.b.mono HB.out)) (HHS.out.2.1.below (HG7.out.b.mono HB.out))).mono ?_
          rintro e W20 ⟨rfl, hb⟩
          have HG20 := Lib.hid (HG7.out.grow hb)
          have HU20 := Lib.hid (RS.grow HU7.out hb)
          clear hb HG7 HU7
          go_wp2_with fail
          refine (equal_ints (B1 := W20.heap.size) (B2 := B) (by have := HTL.out; omega) HG20.out.m (HHS.out.2.2.1.below (HG20.out.b.mono HB.out))).mono ?_
          rintro e W21 ⟨rfl, hb⟩
          have HB21 := Lib.hid (HG20.out.b.trans (hb.mono HG20.out.b.size))
          have HU21 := Lib.hid (RS.grow HU20.out hb)
          have et : decide (T = T) = true := by simp
          rw [et]
          clear et hb HG20 HU20
          go_wp2_with fail
          refine (equal_ints (B1 := W21.heap.size) (B2 := B) (by have := HUL.out; omega) HU21.out (HHS.out.2.2.2.below (HB21.out.mono HB.out))).mono ?_
          rintro e W22 ⟨rfl, hb⟩
          have HB22 := Lib.hid (HB21.out.trans (hb.mono HB21.out.size))
          have et : decide (U = U) = true := by simp
          rw [et]
          clear et hb HU21 HB21
          go_wp2_with fail
          refine (awake_any _).mono ?_
          rintro e W23 ⟨rfl, hb⟩
          have HB23 := Lib.hid (HB22.out.trans (hb.mono HB22.out.size))
          clear hb HB22
          go_wp2
          go_ret
          exact ⟨rfl, HB23.out⟩
end Go.Proofs.Ytdgibmgifgdpbaa
