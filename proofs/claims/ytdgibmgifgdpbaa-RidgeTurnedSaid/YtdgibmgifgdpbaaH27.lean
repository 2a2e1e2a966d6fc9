/-
  Parts of the proof, in the order in which they build: Turn.
-/
import Derived.Deep.CutRange
import Derived.BigQuiet
import Derived.Test.YtdgibmgifgdpbaaH16
import Derived.Test.YtdgibmgifgdpbaaH25
import Derived.Test.YtdgibmgifgdpbaaH26
import Derived.Test.YtdgibmgifgdpbaaG16
set_option linter.unusedVariables false
set_option linter.unusedSimpArgs false
namespace Go.Proofs.Ytdgibmgifgdpbaa
open Go.RowKit Go.Shelf
open Lim

theorem Kept.cellI' {w : World} {S d c : Nat} {R : List Row} {X : List (Nat × Obj)} {W : World} (H : Kept w S d c R X W) {g n cap : Nat} {l : List Int} (h : rwI (.slice (some ⟨g, 0, none⟩) n cap) l ∈ R) {j : Nat} (hj : j < l.length) : W.cell? ⟨g, j, none⟩ = some (.int .i64 (l.getD j 0)) :=
  row_cell (H.r _ h) rfl (by show (ints l)[j]? = _; rw [ints_at' l j hj, List.getD_eq_getElem?_getD])
theorem Kept.over {w : World} {S d c : Nat} {R : List Row} {X : List (Nat × Obj)} {W W1 : World} (H : Kept w S d c R X W) (hb : Below W.heap.size W W1) {q : Nat} (hq : W.heap.size ≤ q) {a b e : Value} {t : TypeId} (h : W1.heap[q]? = some (.cells #[a, b, e] t (0, 0))) (x y : Value) :
    Kept w S d c R ((q, .cells #[x, y, e] t (0, 0)) :: X) ((W1.setCell ⟨q, 0, none⟩ x).setCell ⟨q, 1, none⟩ y) :=
  (H.grow ((hb.setCell (p := ⟨q, 0, none⟩) hq _).setCell (p := ⟨q, 1, none⟩) hq _)).addX (Nat.le_trans H.o.2.2 hq) (by rw [heap_setCell_self _ (heap_setCell_self _ h)]; rfl)
theorem contains_quiet {B : Nat} {v : Value} {xs : List Int} (x : Int) {z : Bool} {w : World} {n : Nat} (hz : decide (x ∈ xs) = z) (hn : xs.length ≤ 100000) (hv : RS B w v xs.length (ints xs)) :
    Calls Try.prog 29 #[v, .int .i64 x] (w.drewN n) fun e w'' => e = .returned (.bool z) ∧ ∃ m, w'' = w.drewN m :=
  Calls.quiet_of_same ((contains_any (B := B) x hn (hv.below (below_drewN (Below.refl _ w) n))).mono fun e w' h => ⟨by rw [h.1, hz], h.2.symm⟩)

set_option maxRecDepth 20000 in
set_option maxHeartbeats 8000000 in
theorem turned_any {B : Nat} {nv : Value} {ns : List Int} {w : World} (hB : B ≤ w.heap.size) (hn : RS B w nv ns.length (u8s ns)) (hnu : ∀ x ∈ ns, 0 ≤ x ∧ x ≤ 255) :
    Calls Try.prog 4 #[nv] w fun e w' => e = .returned (.bool true) ∧ Below w.heap.size w w' := by
  have HA := Lib.hid (And.intro hB (And.intro hn hnu))
  obtain ⟨na, nc, rfl, -⟩ := hn
  clear hB hnu
  go_enter Try.func4, Try.ntmps4
  go_wp2_with fail
  refine (of_dk HA.out.1 HA.out.2.1 HA.out.2.2).mono ?_
  rintro e w1 ⟨rfl, hd0, hb1, hs1⟩
  have HD0 := Lib.hid (And.intro hd0 (And.intro hb1 hs1))
  clear hd0 hb1 hs1
  go_wp2_with fail
  refine (made_any (d := w.heap.size) (c0 := 0) (HD0.out.1.deck (n := 0) (by omega)) (by omega) (by omega) (by omega)).mono ?_
  rintro e w3 ⟨m, rows, hv, sv, tv, hs, ss, T, c', rfl, hM, hdk, -, hgr, o1, o2, o3⟩
  have HM := Lib.hid hM
  have HO : Hid (openErr (m : Int) hs ss = 0) := Lib.hid (hM.right (by omega) (by omega))
  have HLN := Lib.hid (hM.lens (by omega) (by omega))
  obtain ⟨S, hSe⟩ : ∃ S, S = w1.heap.size := ⟨_, rfl⟩
  have HK0 : Hid (Kept w S w.heap.size c' [rwI tv T, rwI sv ss, rwH hv hs] [] w3) := Lib.hid (by
    have h1 := HD0.out.2.1.size
    have h2 := HD0.out.2.2
    have h4 := hgr.size
    rw [hSe]
    refine ⟨below_grown HD0.out.2.1 hgr h1 (fun r e => by cases e; exact Nat.le_refl _), ⟨Nat.le_refl _, by omega, h4⟩, hdk, ?_, fun p hp => by cases hp⟩
    intro r hr
    simp only [List.mem_cons, List.not_mem_nil, or_false] at hr
    rcases hr with rfl | rfl | rfl
    · exact o3
    · exact o2
    · exact o1)
  obtain ⟨ha, hcap, rfl⟩ : ∃ g cap, hv = .slice (some ⟨g, 0, none⟩) hs.length cap := form_pos (r := rwH hv hs) o1 (show 0 < hs.length by have := HLN.out; omega)
  obtain ⟨sa, scap, rfl⟩ : ∃ g cap, sv = .slice (some ⟨g, 0, none⟩) ss.length cap := form_pos (r := rwI sv ss) o2 (show 0 < ss.length by have := HLN.out; omega)
  obtain ⟨ta, tcap, rfl⟩ : ∃ g cap, tv = .slice (some ⟨g, 0, none⟩) T.length cap := form_pos (r := rwI tv T) o3 (show 0 < T.length by have := HLN.out; omega)
  clear hM hgr o1 o2 o3 hSe HD0 HA hdk
  go_upto_region 2 with (fail)
  have HK1 := Lib.hid (HK0.out.lay (.cells #[.int .i64 m, .slice (some ⟨ha, 0, none⟩) hs.length hcap, .slice (some ⟨sa, 0, none⟩) ss.length scap] 25))
  obtain ⟨q, hqe⟩ : ∃ q, q = w3.heap.size := ⟨_, rfl⟩
  simp only [← hqe] at HK1 ⊢
  generalize w3.alloc (.cells #[.int .i64 m, .slice (some ⟨ha, 0, none⟩) hs.length hcap, .slice (some ⟨sa, 0, none⟩) ss.length scap] 25) = w4 at HK1 ⊢
  clear HK0 hqe
  obtain ⟨b0, b1, b2⟩ := HK1.out.box3 (q := q) (a := .int .i64 m) (b := .slice (some ⟨ha, 0, none⟩) hs.length hcap) (e := .slice (some ⟨sa, 0, none⟩) ss.length scap) (t := 25) (by simp)
  have hN : ss.length = m * rows := HM.out.sea.len
  have hm0 : ¬ m = 0 := by have := HM.out.c; omega
  have hq : ((ss.length : Nat) : Int).tdiv (m : Int) = (rows : Int) := by
    rw [hN, ← Int.ofNat_tdiv, Nat.mul_div_cancel_left _ (by omega)]
  have HN := Lib.hid hN
  have hr9 : (rows : Int) < 1000 := by have := HM.out.r; omega
  have HR9 := Lib.hid (And.intro hr9 HM.out.r)
  have er : IntKind.i64.wrap (rows : Int) = (rows : Int) := IntWalk.i64_in _ (by omega)
  clear hN hr9
  go_upto_region 3 with (fail)
  clear hq er b0 b1 b2
  have HKd := Lib.hid (HK1.out.grow (Below.refl _ w4).drew)
  have hC : (fun W => W.cell? ⟨q, 0, none⟩ = some (.int .i64 m) ∧ W.cell? ⟨q, 1, none⟩ = some (.slice (some ⟨ha, 0, none⟩) hs.length hcap) ∧ W.cell? ⟨q, 2, none⟩ = some (.slice (some ⟨sa, 0, none⟩) ss.length scap)) w4.drew := HKd.out.box3 (q := q) (a := .int .i64 m) (b := .slice (some ⟨ha, 0, none⟩) hs.length hcap) (e := .slice (some ⟨sa, 0, none⟩) ss.length scap) (t := 25) (by simp)
  have hCC := Lib.hid hC
  clear HK1
  generalize hW0 : w4.drew = W1 at HKd hC hCC
  refine Lim.regC' (fun W => W.cell? ⟨q, 0, none⟩ = some (.int .i64 m) ∧ W.cell? ⟨q, 1, none⟩ = some (.slice (some ⟨ha, 0, none⟩) hs.length hcap) ∧ W.cell? ⟨q, 2, none⟩ = some (.slice (some ⟨sa, 0, none⟩) ss.length scap)) [] #[false, false, false, false, false, false, false, false, false, false, false, false] (by kernel_rfl) rfl ?_
  rw [hW0]; clear hW0
  refine Lim.stepR 0 (fun _ => trivial) rfl (by kernel_rfl) (fun _ _ _ _ h => h) hC rfl ?_; apply Exists.intro; refine ⟨?_, ?_⟩
  · rintro w ⟨r1, r2, r3⟩; go_simp; try with_reducible rfl
  simp only [Act.put, List.setIfInBounds_toArray, List.set_cons_succ, List.set_cons_zero]
  refine Lim.stepR 2 (fun _ => trivial) rfl (by kernel_rfl) (fun _ _ _ _ h => h) hC rfl ?_; apply Exists.intro; refine ⟨?_, ?_⟩
  · rintro w ⟨r1, r2, r3⟩; go_simp; try with_reducible rfl
  simp only [Act.put, List.setIfInBounds_toArray, List.set_cons_succ, List.set_cons_zero]
  refine Lim.stepR 4 (fun _ => trivial) rfl (by kernel_rfl) (fun _ _ _ _ h => h) hC rfl ?_; apply Exists.intro; refine ⟨?_, ?_⟩
  · rintro w ⟨r1, r2, r3⟩; go_simp; try with_reducible rfl
  simp only [Act.put, List.setIfInBounds_toArray, List.set_cons_succ, List.set_cons_zero]
  clear hC
  refine Lim.parC [1, 3, 5, 6, 7, 8, 9, 10, 11] (fun done a W => ∃ x45 x47 x49 x6 x7 x8, a = { tmps := #[.slice na ns.length nc, undef, .bool false, .pointer (some ⟨q, 0, none⟩), .slice (some ⟨ta, 0, none⟩) T.length tcap, .int .i64 ↑rows, x6, x7, x8, undef, undef, undef, undef, undef, undef, undef, undef, undef, undef, undef, undef, undef, undef, undef, undef, undef, undef, undef, undef, undef, undef, undef, .tuple #[.agg #[.int .i64 ↑m, .slice (some ⟨ha, 0, none⟩) hs.length hcap, .slice (some ⟨sa, 0, none⟩) ss.length scap], .slice (some ⟨ta, 0, none⟩) T.length tcap], .slice na ns.length nc, .pointer (some ⟨w.heap.size, 0, none⟩), .tuple #[.agg #[.int .i64 ↑m, .slice (some ⟨ha, 0, none⟩) hs.length hcap, .slice (some ⟨sa, 0, none⟩) ss.length scap], .slice (some ⟨ta, 0, none⟩) T.length tcap], .agg #[.int .i64 ↑m, .slice (some ⟨ha, 0, none⟩) hs.length hcap, .slice (some ⟨sa, 0, none⟩) ss.length scap], .slice (some ⟨ta, 0, none⟩) T.length tcap, .pointer (some ⟨q, 2, none⟩), .slice (some ⟨sa, 0, none⟩) ss.length scap, .int .i64 ↑ss.length, .pointer (some ⟨q, 0, none⟩), .int .i64 ↑m, .int .i64 ↑rows, .agg #[.int .i64 ↑m, .slice (some ⟨ha, 0, none⟩) hs.length hcap, .slice (some ⟨sa, 0, none⟩) ss.length scap], x45, .agg #[.int .i64 ↑m, .slice (some ⟨ha, 0, none⟩) hs.length hcap, .slice (some ⟨sa, 0, none⟩) ss.length scap], x47, .agg #[.int .i64 ↑m, .slice (some ⟨ha, 0, none⟩) hs.length hcap, .slice (some ⟨sa, 0, none⟩) ss.length scap], x49, undef, undef, undef, undef, undef, undef, undef, undef, undef, undef, undef, undef, undef, undef, undef, undef, undef, undef, undef, undef, undef, undef, undef, undef, undef, undef, undef, undef, undef, undef, undef, undef, undef, undef, undef, undef, undef, undef, undef, undef, undef, undef, undef, undef, undef, undef, undef, undef, undef, undef, undef, undef, undef, undef, undef, undef, undef, undef, undef, undef, undef, undef, undef, undef, undef, undef, undef, undef, undef, undef, undef, undef, undef, undef, undef, undef, undef, undef, undef, undef, undef, undef, undef, undef, undef, undef, undef, undef, undef, undef, undef, undef, undef, undef, undef, undef, undef, undef, undef, undef, undef, undef, undef, undef, undef, undef, undef, undef, undef, undef, undef, undef, undef, undef, undef, undef, undef, undef, undef, undef, undef, undef, undef, undef, undef, undef, undef, undef, undef, undef, undef, undef, undef, undef, undef, undef, undef, undef, undef, undef, undef, undef, undef, undef, undef, undef, undef, undef, undef, undef, undef, undef, undef, undef, undef, undef, undef, undef, undef, undef, undef, undef, undef, undef, undef, undef, undef, undef, undef, undef, undef, undef, undef, undef, undef, undef, undef, undef, undef, undef, undef, undef, undef, undef, undef, undef, undef, undef, undef, undef, undef, undef, undef, undef, undef, undef, undef, undef, undef, undef, undef, undef, undef, undef, undef, undef, undef, undef, undef, undef, undef, undef, undef, undef, undef, undef, undef, undef, undef, undef, undef, undef, undef, undef, undef, undef, undef, undef], defers := [] } ∧ Tu3 W1 m hs ss done x45 x47 x49 x6 x7 x8 W) (fun _ => trivial) (by kernel_rfl) rfl rfl ?hC ?step ?fin ⟨_, _, _, _, _, _, rfl, Tu3.begin _⟩
  case hC =>
    rintro done a W ⟨x45, x47, x49, x6, x7, x8, rfl, HT⟩
    exact ⟨cell_on HT.b hCC.out.1, cell_on HT.b hCC.out.2.1, cell_on HT.b hCC.out.2.2⟩
  case step =>
    intro i o hi ho done a W hd hdep hS K hK
    obtain ⟨x45, x47, x49, x6, x7, x8, rfl, HT⟩ := hS
    simp only [List.mem_cons, List.not_mem_nil, or_false] at hi
    rcases hi with rfl | rfl | rfl | rfl | rfl | rfl | rfl | rfl | rfl
    · cases ho
      clear hdep
      have HKg := HKd.out.grow HT.b
      have HC := lclone_any (B := W.heap.size) (wd := m) (Nat.le_refl _) (HKg.rsH (v := .slice (some ⟨ha, 0, none⟩) hs.length hcap) (hs := hs) (by simp)) (HKg.rsI (v := .slice (some ⟨sa, 0, none⟩) ss.length scap) (l := ss) (by simp)) (by have := HLN.out; omega) (by have := HLN.out; omega)
      clear HKg
      go_simp
      refine ⟨rfl, (callsIn_wide.2 HC).mono ?_⟩
      rintro e W' ⟨hv', sv', rfl, o1, o2, hb⟩
      refine hK _ _ ?_
      exact ⟨_, _, _, _, _, _, rfl, HT.st1 hd hb (Cl.new (by have := HLN.out; omega) (by have := HLN.out; omega) o1 o2)⟩
    · cases ho
      have h1 := hdep 1 (by kernel_rfl) (by simp)
      clear hdep
      have HKg := HKd.out.grow HT.b
      have HC := lclone_any (B := W.heap.size) (wd := m) (Nat.le_refl _) (HKg.rsH (v := .slice (some ⟨ha, 0, none⟩) hs.length hcap) (hs := hs) (by simp)) (HKg.rsI (v := .slice (some ⟨sa, 0, none⟩) ss.length scap) (l := ss) (by simp)) (by have := HLN.out; omega) (by have := HLN.out; omega)
      clear HKg
      go_simp
      refine ⟨rfl, (callsIn_wide.2 HC).mono ?_⟩
      rintro e W' ⟨hv', sv', rfl, o1, o2, hb⟩
      refine hK _ _ ?_
      exact ⟨_, _, _, _, _, _, rfl, HT.st3 hd h1 hb (Cl.new (by have := HLN.out; omega) (by have := HLN.out; omega) o1 o2)⟩
    · cases ho
      have h3 := hdep 3 (by kernel_rfl) (by simp)
      clear hdep
      have HKg := HKd.out.grow HT.b
      have HC := lclone_any (B := W.heap.size) (wd := m) (Nat.le_refl _) (HKg.rsH (v := .slice (some ⟨ha, 0, none⟩) hs.length hcap) (hs := hs) (by simp)) (HKg.rsI (v := .slice (some ⟨sa, 0, none⟩) ss.length scap) (l := ss) (by simp)) (by have := HLN.out; omega) (by have := HLN.out; omega)
      clear HKg
      go_simp
      refine ⟨rfl, (callsIn_wide.2 HC).mono ?_⟩
      rintro e W' ⟨hv', sv', rfl, o1, o2, hb⟩
      refine hK _ _ ?_
      exact ⟨_, _, _, _, _, _, rfl, HT.st5 hd h3 hb (Cl.new (by have := HLN.out; omega) (by have := HLN.out; omega) o1 o2)⟩
    · cases ho
      clear hdep
      go_simp
      refine hK _ _ ?_
      exact ⟨_, _, _, _, _, _, rfl, HT.st6 hd⟩
    · cases ho
      clear hdep
      go_simp
      refine hK _ _ ?_
      exact ⟨_, _, _, _, _, _, rfl, HT.st7 hd⟩
    · cases ho
      clear hdep
      go_simp
      refine hK _ _ ?_
      exact ⟨_, _, _, _, _, _, rfl, HT.st8 hd⟩
    · cases ho
      have hcl := hdep 1 (by kernel_rfl) (by simp)
      have hbx := hdep 6 (by kernel_rfl) (by simp)
      clear hdep
      obtain ⟨N, -, ⟨hx, hxc, sx, sxc, rfl, -⟩, -⟩ := HT.c hcl
      obtain ⟨p, rfl, -, hp2⟩ := HT.d6 hbx
      rw [hd] at hp2
      obtain ⟨⟨k0, k1, k2⟩, g0, g1, g2⟩ := cell_of_heap hp2
      clear hp2
      go_simp
      refine hK _ _ ?_
      exact ⟨_, _, _, _, _, _, rfl, HT.st9 hd hbx hcl rfl⟩
    · cases ho
      have hcl := hdep 3 (by kernel_rfl) (by simp)
      have hbx := hdep 7 (by kernel_rfl) (by simp)
      clear hdep
      obtain ⟨N, -, -, k3⟩ := HT.c (HT.w3 hcl)
      obtain ⟨M, -, -, ⟨hx, hxc, sx, sxc, rfl, -⟩, -⟩ := k3 hcl
      clear k3
      obtain ⟨p, rfl, -, hp2⟩ := HT.d7 hbx
      rw [hd] at hp2
      obtain ⟨⟨k0, k1, k2⟩, g0, g1, g2⟩ := cell_of_heap hp2
      clear hp2
      go_simp
      refine hK _ _ ?_
      exact ⟨_, _, _, _, _, _, rfl, HT.st10 hd hbx hcl rfl⟩
    · cases ho
      have hcl := hdep 5 (by kernel_rfl) (by simp)
      have hbx := hdep 8 (by kernel_rfl) (by simp)
      clear hdep
      obtain ⟨N, -, -, k3⟩ := HT.c (HT.w3 (HT.w5 hcl))
      obtain ⟨M, -, -, -, k4⟩ := k3 (HT.w5 hcl)
      obtain ⟨hx, hxc, sx, sxc, rfl, -⟩ := k4 hcl
      clear k3 k4
      obtain ⟨p, rfl, -, hp2⟩ := HT.d8 hbx
      rw [hd] at hp2
      obtain ⟨⟨k0, k1, k2⟩, g0, g1, g2⟩ := cell_of_heap hp2
      clear hp2
      go_simp
      refine hK _ _ ?_
      exact ⟨_, _, _, _, _, _, rfl, HT.st11 hd hbx hcl rfl⟩
  case fin =>
    rintro done a W hall ⟨x45, x47, x49, x6, x7, x8, rfl, HT⟩
    obtain ⟨N1, k1, ⟨hO, kO, sO, cO, rfl, z1, oh1, os1⟩, k3⟩ := HT.c (hall 1 (by simp))
    obtain ⟨N2, k4, k5, ⟨hT, kT, sT, cT, rfl, z2, oh2, os2⟩, k7⟩ := k3 (hall 3 (by simp))
    obtain ⟨hB, kB, sB, cB, rfl, z3, oh3, os3⟩ := k7 (hall 5 (by simp))
    obtain ⟨p6, rfl, l6, hp6⟩ := HT.d6 (hall 6 (by simp))
    obtain ⟨p7, rfl, l7, hp7⟩ := HT.d7 (hall 7 (by simp))
    obtain ⟨p8, rfl, l8, hp8⟩ := HT.d8 (hall 8 (by simp))
    rw [hall 9 (by simp)] at hp6
    rw [hall 10 (by simp)] at hp7
    rw [hall 11 (by simp)] at hp8
    have HKe := Lib.hid (HKd.out.grow HT.b)
    have HBW := Lib.hid HT.b
    have n67 : p6 ≠ p7 := fun e => HT.n67 (hall 6 (by simp)) (hall 7 (by simp)) (by rw [e])
    have n78 : p8 ≠ p7 := fun e => HT.n78 (hall 7 (by simp)) (hall 8 (by simp)) (by rw [e])
    clear k3 k7 hall HT
    have hlen : hs.length = ss.length := HLN.out.1
    replace hp6 : W.heap[p6]? = some (.cells #[.int .i64 m, .slice (some ⟨hO, 0, none⟩) ss.length kO, .slice (some ⟨sO, 0, none⟩) ss.length cO] 25 (0, 0)) := by rw [hp6, ← hlen]; simp [boxObj, Value.cells]
    replace hp7 : W.heap[p7]? = some (.cells #[.int .i64 m, .slice (some ⟨hT, 0, none⟩) ss.length kT, .slice (some ⟨sT, 0, none⟩) ss.length cT] 25 (0, 0)) := by rw [hp7, ← hlen]; simp [boxObj, Value.cells]
    replace hp8 : W.heap[p8]? = some (.cells #[.int .i64 m, .slice (some ⟨hB, 0, none⟩) ss.length kB, .slice (some ⟨sB, 0, none⟩) ss.length cB] 25 (0, 0)) := by rw [hp8, ← hlen]; simp [boxObj, Value.cells]
    rw [hlen] at oh1 oh2 oh3
    obtain ⟨⟨d0, d1, d2⟩, g0, g1, g2⟩ := cell_of_heap hp7
    have HS0 := Lib.hid (And.intro (And.intro oh1 (And.intro os1 (And.intro oh2 (And.intro os2 (And.intro oh3 os3))))) (And.intro z1 (And.intro z2 (And.intro z3 (And.intro k4 k5)))))
    have HS1 := Lib.hid (And.intro (And.intro hp6 (And.intro hp7 hp8)) (And.intro (And.intro l6 (And.intro l7 l8)) (And.intro n67 n78)))
    clear oh1 oh2 oh3 os1 os2 os3 z1 z2 z3 k1 k4 k5 hp6 hp7 hp8 l6 l7 l8 n67 n78 HKe hlen
    go_upto_region 5 with (fail)
    clear d0 d1 d2 g0 g1 g2
    have hbw2 : Below W1.heap.size W1 (W.setCell ⟨p7, 0, none⟩ (.int .i64 rows)) := HBW.out.setCell (p := ⟨p7, 0, none⟩) HS1.out.2.1.2.1 _
    have HS2 : Hid ((W.setCell ⟨p7, 0, none⟩ (.int .i64 rows)).heap.size = W.heap.size) := Lib.hid (by simp [World.setCell])
    have HS3 : Hid (((W.setCell ⟨p7, 0, none⟩ (.int .i64 rows)).heap[p6]? = some (.cells #[.int .i64 m, .slice (some ⟨hO, 0, none⟩) ss.length kO, .slice (some ⟨sO, 0, none⟩) ss.length cO] 25 (0, 0)) ∧
        (W.setCell ⟨p7, 0, none⟩ (.int .i64 rows)).heap[p7]? = some (.cells #[.int .i64 rows, .slice (some ⟨hT, 0, none⟩) ss.length kT, .slice (some ⟨sT, 0, none⟩) ss.length cT] 25 (0, 0)) ∧
        (W.setCell ⟨p7, 0, none⟩ (.int .i64 rows)).heap[p8]? = some (.cells #[.int .i64 m, .slice (some ⟨hB, 0, none⟩) ss.length kB, .slice (some ⟨sB, 0, none⟩) ss.length cB] 25 (0, 0)))) := Lib.hid
      ⟨(Below.heap_setCell _ _ _ p6 HS1.out.2.2.1).trans HS1.out.1.1, by rw [heap_setCell_self _ HS1.out.1.2.1]; rfl, (Below.heap_setCell _ _ _ p8 HS1.out.2.2.2).trans HS1.out.1.2.2⟩
    have HS4 := Lib.hid (And.intro (keep_typed HS0.out.1.1 HS1.out.1.2.1 (by decide) 0 (.int .i64 rows)) (And.intro (keep_typed HS0.out.1.2.1 HS1.out.1.2.1 (by decide) 0 (.int .i64 rows)) (And.intro (keep_typed HS0.out.1.2.2.1 HS1.out.1.2.1 (by decide) 0 (.int .i64 rows)) (And.intro (keep_typed HS0.out.1.2.2.2.1 HS1.out.1.2.1 (by decide) 0 (.int .i64 rows)) (And.intro (keep_typed HS0.out.1.2.2.2.2.1 HS1.out.1.2.1 (by decide) 0 (.int .i64 rows)) (keep_typed HS0.out.1.2.2.2.2.2 HS1.out.1.2.1 (by decide) 0 (.int .i64 rows)))))))
    generalize W.setCell ⟨p7, 0, none⟩ (.int .i64 rows) = W2 at hbw2 HS2 HS3 HS4 ⊢
    have HBW2 := Lib.hid hbw2
    have HKf := Lib.hid (HKd.out.grow ((hbw2.trans ((Below.refl W2.heap.size W2).drew.mono hbw2.size))))
    have hC : (fun W => W.cell? ⟨q, 0, none⟩ = some (.int .i64 m) ∧ W.cell? ⟨q, 1, none⟩ = some (.slice (some ⟨ha, 0, none⟩) hs.length hcap) ∧ W.cell? ⟨q, 2, none⟩ = some (.slice (some ⟨sa, 0, none⟩) ss.length scap)) W2.drew := HKf.out.box3 (q := q) (a := .int .i64 m) (b := .slice (some ⟨ha, 0, none⟩) hs.length hcap) (e := .slice (some ⟨sa, 0, none⟩) ss.length scap) (t := 25) (by simp)
    have hCC2 := Lib.hid hC
    clear hbw2 hCC HBW
    generalize hW0 : W2.drew = W3 at HKf hC hCC2
    have HW3 : Hid (W3.heap.size = W2.heap.size ∧ W3.heap = W2.heap ∧ Below W2.heap.size W2 W3) := Lib.hid (by rw [← hW0]; exact ⟨rfl, rfl, (Below.refl _ W2).drew⟩)
    refine Lim.regC' (fun W => W.cell? ⟨q, 0, none⟩ = some (.int .i64 m) ∧ W.cell? ⟨q, 1, none⟩ = some (.slice (some ⟨ha, 0, none⟩) hs.length hcap) ∧ W.cell? ⟨q, 2, none⟩ = some (.slice (some ⟨sa, 0, none⟩) ss.length scap)) [] #[false, false, false, false, false, false, false, false, false, false] (by kernel_rfl) rfl ?_
    rw [hW0]; clear hW0
    refine Lim.stepR 0 (fun _ => trivial) rfl (by kernel_rfl) (fun _ _ _ _ h => h) hC rfl ?_; apply Exists.intro; refine ⟨?_, ?_⟩
    · rintro w ⟨r1, r2, r3⟩; go_simp; try with_reducible rfl
    simp only [Act.put, List.setIfInBounds_toArray, List.set_cons_succ, List.set_cons_zero]
    refine Lim.stepR 1 (fun _ => trivial) rfl (by kernel_rfl) (fun _ _ _ _ h => h) hC rfl ?_; apply Exists.intro; refine ⟨?_, ?_⟩
    · rintro w ⟨r1, r2, r3⟩; go_simp; try with_reducible rfl
    simp only [Act.put, List.setIfInBounds_toArray, List.set_cons_succ, List.set_cons_zero]
    refine Lim.stepR 2 (fun _ => trivial) rfl (by kernel_rfl) (fun _ _ _ _ h => h) hC rfl ?_; apply Exists.intro; refine ⟨?_, ?_⟩
    · rintro w ⟨r1, r2, r3⟩; go_simp; try with_reducible rfl
    simp only [Act.put, List.setIfInBounds_toArray, List.set_cons_succ, List.set_cons_zero]
    refine Lim.stepR 4 (fun _ => trivial) rfl (by kernel_rfl) (fun _ _ _ _ h => h) hC rfl ?_; apply Exists.intro; refine ⟨?_, ?_⟩
    · rintro w ⟨r1, r2, r3⟩; go_simp; try with_reducible rfl
    simp only [Act.put, List.setIfInBounds_toArray, List.set_cons_succ, List.set_cons_zero]
    refine Lim.stepR 5 (fun _ => trivial) rfl (by kernel_rfl) (fun _ _ _ _ h => h) hC rfl ?_; apply Exists.intro; refine ⟨?_, ?_⟩
    · rintro w ⟨r1, r2, r3⟩; go_simp; try with_reducible rfl
    simp only [Act.put, List.setIfInBounds_toArray, List.set_cons_succ, List.set_cons_zero]
    refine Lim.stepR 6 (fun _ => trivial) rfl (by kernel_rfl) (fun _ _ _ _ h => h) hC rfl ?_; apply Exists.intro; refine ⟨?_, ?_⟩
    · rintro w ⟨r1, r2, r3⟩; go_simp; try with_reducible rfl
    simp only [Act.put, List.setIfInBounds_toArray, List.set_cons_succ, List.set_cons_zero]
    clear hC
    obtain ⟨i0, hi, hz0, hz1, hz2⟩ := info_parts Try.infoInt
    have HIN := Lib.hid (And.intro hi (And.intro hz0 (And.intro hz1 hz2)))
    clear hi hz0 hz1 hz2
    refine Lim.parC [3, 7, 8, 9] (fun done a W => ∃ x55 x59 x9 x10, a = { tmps := #[.slice na ns.length nc, undef, .bool false, .pointer (some ⟨q, 0, none⟩), .slice (some ⟨ta, 0, none⟩) T.length tcap, .int .i64 ↑rows, .pointer (some ⟨p6, 0, none⟩), .pointer (some ⟨p7, 0, none⟩), .pointer (some ⟨p8, 0, none⟩), x9, x10, undef, undef, undef, undef, undef, undef, undef, undef, undef, undef, undef, undef, undef, undef, undef, undef, undef, undef, undef, undef, undef, .tuple #[.agg #[.int .i64 ↑m, .slice (some ⟨ha, 0, none⟩) hs.length hcap, .slice (some ⟨sa, 0, none⟩) ss.length scap], .slice (some ⟨ta, 0, none⟩) T.length tcap], .slice na ns.length nc, .pointer (some ⟨w.heap.size, 0, none⟩), .tuple #[.agg #[.int .i64 ↑m, .slice (some ⟨ha, 0, none⟩) hs.length hcap, .slice (some ⟨sa, 0, none⟩) ss.length scap], .slice (some ⟨ta, 0, none⟩) T.length tcap], .agg #[.int .i64 ↑m, .slice (some ⟨ha, 0, none⟩) hs.length hcap, .slice (some ⟨sa, 0, none⟩) ss.length scap], .slice (some ⟨ta, 0, none⟩) T.length tcap, .pointer (some ⟨q, 2, none⟩), .slice (some ⟨sa, 0, none⟩) ss.length scap, .int .i64 ↑ss.length, .pointer (some ⟨q, 0, none⟩), .int .i64 ↑m, .int .i64 ↑rows, .agg #[.int .i64 ↑m, .slice (some ⟨ha, 0, none⟩) hs.length hcap, .slice (some ⟨sa, 0, none⟩) ss.length scap], .agg #[.int .i64 ↑m, .slice (some ⟨hO, 0, none⟩) hs.length kO, .slice (some ⟨sO, 0, none⟩) ss.length cO], .agg #[.int .i64 ↑m, .slice (some ⟨ha, 0, none⟩) hs.length hcap, .slice (some ⟨sa, 0, none⟩) ss.length scap], .agg #[.int .i64 ↑m, .slice (some ⟨hT, 0, none⟩) hs.length kT, .slice (some ⟨sT, 0, none⟩) ss.length cT], .agg #[.int .i64 ↑m, .slice (some ⟨ha, 0, none⟩) hs.length hcap, .slice (some ⟨sa, 0, none⟩) ss.length scap], .agg #[.int .i64 ↑m, .slice (some ⟨hB, 0, none⟩) hs.length kB, .slice (some ⟨sB, 0, none⟩) ss.length cB], .int .i64 ↑rows, .pointer (some ⟨p7, 0, none⟩), .pointer (some ⟨q, 2, none⟩), .slice (some ⟨sa, 0, none⟩) ss.length scap, .int .i64 ↑ss.length, x55, .pointer (some ⟨q, 2, none⟩), .slice (some ⟨sa, 0, none⟩) ss.length scap, .int .i64 ↑ss.length, x59, undef, undef, undef, undef, undef, undef, undef, undef, undef, undef, undef, undef, undef, undef, undef, undef, undef, undef, undef, undef, undef, undef, undef, undef, undef, undef, undef, undef, undef, undef, undef, undef, undef, undef, undef, undef, undef, undef, undef, undef, undef, undef, undef, undef, undef, undef, undef, undef, undef, undef, undef, undef, undef, undef, undef, undef, undef, undef, undef, undef, undef, undef, undef, undef, undef, undef, undef, undef, undef, undef, undef, undef, undef, undef, undef, undef, undef, undef, undef, undef, undef, undef, undef, undef, undef, undef, undef, undef, undef, undef, undef, undef, undef, undef, undef, undef, undef, undef, undef, undef, undef, undef, undef, undef, undef, undef, undef, undef, undef, undef, undef, undef, undef, undef, undef, undef, undef, undef, undef, undef, undef, undef, undef, undef, undef, undef, undef, undef, undef, undef, undef, undef, undef, undef, undef, undef, undef, undef, undef, undef, undef, undef, undef, undef, undef, undef, undef, undef, undef, undef, undef, undef, undef, undef, undef, undef, undef, undef, undef, undef, undef, undef, undef, undef, undef, undef, undef, undef, undef, undef, undef, undef, undef, undef, undef, undef, undef, undef, undef, undef, undef, undef, undef, undef, undef, undef, undef, undef, undef, undef, undef, undef, undef, undef, undef, undef, undef, undef, undef, undef, undef, undef, undef, undef, undef, undef, undef, undef, undef, undef, undef, undef, undef, undef, undef, undef, undef, undef], defers := [] } ∧ Mk2 W3 ss.length done x55 x59 x9 x10 W) (fun _ => trivial) (by kernel_rfl) rfl rfl ?hC ?step ?fin ⟨_, _, _, _, rfl, Mk2.begin _⟩
    case hC =>
      rintro done a W ⟨x55, x59, x9, x10, rfl, HM2⟩
      exact ⟨cell_on HM2.b hCC2.out.1, cell_on HM2.b hCC2.out.2.1, cell_on HM2.b hCC2.out.2.2⟩
    case step =>
      intro i o hi ho done a W hd hdep hS K hK
      obtain ⟨x55, x59, x9, x10, rfl, HM2⟩ := hS
      simp only [List.mem_cons, List.not_mem_nil, or_false] at hi
      rcases hi with rfl | rfl | rfl | rfl
      · cases ho
        clear hdep
        obtain ⟨W', hrun, ho1, hb⟩ := make_zeros (W := W) HIN.out (B := W3.heap.size) (n := ss.length) (by have := HLN.out; omega) HM2.b.size
        refine make_upon rfl rfl rfl hrun (hK _ _ ?_)
        simp only [Act.put, List.setIfInBounds_toArray, List.set_cons_succ, List.set_cons_zero]
        exact ⟨_, _, _, _, rfl, HM2.st3 hd hb ho1⟩
      · cases ho
        clear hdep
        obtain ⟨W', hrun, ho1, hb⟩ := make_zeros (W := W) HIN.out (B := W3.heap.size) (n := ss.length) (by have := HLN.out; omega) HM2.b.size
        refine make_upon rfl rfl rfl hrun (hK _ _ ?_)
        simp only [Act.put, List.setIfInBounds_toArray, List.set_cons_succ, List.set_cons_zero]
        exact ⟨_, _, _, _, rfl, HM2.st7 hd hb ho1⟩
      · cases ho
        have h3 := hdep 3 (by kernel_rfl) (by simp)
        clear hdep
        go_simp
        refine hK _ _ ?_
        exact ⟨_, _, _, _, rfl, HM2.st8 h3⟩
      · cases ho
        have h7 := hdep 7 (by kernel_rfl) (by simp)
        clear hdep
        go_simp
        refine hK _ _ ?_
        exact ⟨_, _, _, _, rfl, HM2.st9 h7⟩
    case fin =>
      rintro done a W4 hall ⟨x55, x59, x9, x10, rfl, HM2⟩
      obtain ⟨pP, e1, zP, oP⟩ := HM2.d3 (hall 3 (by simp))
      obtain ⟨pM, e2, zM, oM⟩ := HM2.d7 (hall 7 (by simp))
      have e3 := (HM2.d8 (hall 8 (by simp))).2
      have e4 := (HM2.d9 (hall 9 (by simp))).2
      have hPM : pP ≠ pM := fun e => HM2.ne (hall 3 (by simp)) (hall 7 (by simp)) (by rw [e1, e2, e])
      subst e1 e2 e3 e4
      have hb24 : Below W2.heap.size W2 W4 := HW3.out.2.2.trans (HM2.b.mono (Nat.le_of_eq HW3.out.1.symm))
      have HL : Hid (TuL W1 m rows ss.length p6 p7 p8 hO sO hT sT hB sB pP pM kO cO kT cT kB cB ss.length ss.length hs hs hs ss ss ss (List.replicate ss.length 0) (List.replicate ss.length 0) W4) := Lib.hid (by
        obtain ⟨a1, a2, a3, a4, a5, a6⟩ := HS4.out
        obtain ⟨b1, b2, b3⟩ := HS3.out
        obtain ⟨z1, z2, z3, k4, k5⟩ := HS0.out.2
        obtain ⟨l6, l7, l8⟩ := HS1.out.2.1
        have s1 := HBW2.out.size
        have s2 := HS2.out
        have s3 := HW3.out.1
        have r1 := owns_below (owns_mono a1 (Nat.le_refl _)) hb24
        have r2 := owns_below (owns_mono a2 (Nat.le_refl _)) hb24
        have r3 := owns_below (owns_mono a3 (show W1.heap.size ≤ N1 by omega)) hb24
        have r4 := owns_below (owns_mono a4 (show W1.heap.size ≤ N1 by omega)) hb24
        have r5 := owns_below (owns_mono a5 (show W1.heap.size ≤ N2 by omega)) hb24
        have r6 := owns_below (owns_mono a6 (show W1.heap.size ≤ N2 by omega)) hb24
        have r7 := owns_mono oP (show W1.heap.size ≤ W3.heap.size by omega)
        have r8 := owns_mono oM (show W1.heap.size ≤ W3.heap.size by omega)
        have thO := typed r1
        have tsO := typed r2
        have thT := typed r3
        have tsT := typed r4
        have thB := typed r5
        have tsB := typed r6
        have tpP := typed r7
        have tpM := typed r8
        exact ⟨HBW2.out.trans (hb24.mono s1), r1, r2, r3, r4, r5, r6, r7, r8, heap_grow b1 hb24, heap_grow b2 hb24, heap_grow b3 hb24, typed_ne thO tsO (by decide), by omega, typed_ne thO tsT (by decide), by omega, typed_ne thO tsB (by decide), typed_ne thO tpP (by decide), typed_ne thO tpM (by decide), typed_ne tsO thT (by decide), by omega, typed_ne tsO thB (by decide), by omega, by omega, by omega, typed_ne thT tsT (by decide), by omega, typed_ne thT tsB (by decide), typed_ne thT tpP (by decide), typed_ne thT tpM (by decide), typed_ne tsT thB (by decide), by omega, by omega, by omega, typed_ne thB tsB (by decide), typed_ne thB tpP (by decide), typed_ne thB tpM (by decide), by omega, by omega, hPM, ⟨l6, l7, l8⟩⟩)
      clear hall HM2 hPM oP oM zP zM hb24 HS0 HS1 HS2 HS3 HS4 HW3 hCC2 HKf HBW2
      have HKl := Lib.hid (HKd.out.grow HL.out.b)
      obtain ⟨b0, b1, b2⟩ := HKl.out.box3 (q := q) (a := .int .i64 m) (b := .slice (some ⟨ha, 0, none⟩) hs.length hcap) (e := .slice (some ⟨sa, 0, none⟩) ss.length scap) (t := 25) (by simp)
      go_wp2_with fail
      clear b0 b1 b2 HKl
      go_loopw [63] (fun i W => ∃ (k : Nat) (O Ts Bs Pp Mm : List Int) (Th Bh : List (Int × Int)), k ≤ ss.length ∧ i = .int .i64 k ∧ Hid (TuP m rows ss.length hs ss k O Ts Bs Pp Mm Th Bh) ∧ Hid (TuL W1 m rows ss.length p6 p7 p8 hO sO hT sT hB sB pP pM kO cO kT cT kB cB ss.length ss.length hs Th Bh O Ts Bs Pp Mm W)) (fun i _ => ss.length - (intOf i).toNat)
      case atStart => exact ⟨0, ss, ss, ss, _, _, hs, hs, Nat.zero_le _, rfl, Lib.hid (TuP.begin HLN.out.1 rfl), HL⟩
      case round =>
        clear HL
        obtain ⟨k, O, Ts, Bs, Pp, Mm, Th, Bh, hk, rfl, HP, HL⟩ := hrel
        by_cases hlt : k < ss.length
        ·
          as_aux_lemma =>
            have HKl := Lib.hid (HKd.out.grow HL.out.b)
            obtain ⟨b0, b1, b2⟩ := HKl.out.box3 (q := q) (a := .int .i64 m) (b := .slice (some ⟨ha, 0, none⟩) hs.length hcap) (e := .slice (some ⟨sa, 0, none⟩) ss.length scap) (t := 25) (by simp)
            have q0 := HKl.out.cellI (g := sa) (cap := scap) (l := ss) (by simp) hlt
            obtain ⟨sk, hsk⟩ : ∃ sk, sk = ss.getD k 0 := ⟨_, rfl⟩
            rw [← hsk] at q0
            obtain ⟨v0, v1, v2⟩ := (cell_of_heap HL.out.x6).1
            have z0 := HL.out.os.cellAt k (by omega)
            rw [ints_at' O k (by have := HP.out.lo; omega)] at z0
            have zf := HL.out.os.frozenAt k
            have hskr : 0 ≤ sk ∧ sk ≤ 2 := by rw [hsk]; exact seas_of HO.out k hlt
            have ef : (3 - sk).tmod 3 = flip sk := flip_is hskr
            have ew : IntKind.i64.wrap (3 - sk) = 3 - sk := IntWalk.i64_in _ (by omega)
            have ew2 : IntKind.i64.wrap (flip sk) = flip sk := flip_wrap hskr
            have HSK := Lib.hid hsk
            have hi1 : (k : Int) < (ss.length : Int) := by omega
            have hi3 : (k : Int) < 1000 := by have := HLN.out; omega
            have HL1 := Lib.hid (HL.out.put_os k (flip sk))
            clear hsk hskr
            go_upto_region 10 with (fail)
            clear q0 v0 v1 v2 z0 zf ef ew ew2 HL HKl b0 b1 b2
            generalize wr.setCell ⟨sO, k, none⟩ (.int .i64 (flip sk)) = Wa at HL1 ⊢
            have HKl := Lib.hid (HKd.out.grow HL1.out.b)
            obtain ⟨b0, b1, b2⟩ := HKl.out.box3 (q := q) (a := .int .i64 m) (b := .slice (some ⟨ha, 0, none⟩) hs.length hcap) (e := .slice (some ⟨sa, 0, none⟩) ss.length scap) (t := 25) (by simp)
            obtain ⟨x, hx⟩ : ∃ x, x = k % m := ⟨_, rfl⟩
            obtain ⟨y, hy⟩ : ∃ y, y = k / m := ⟨_, rfl⟩
            have em : (k : Int).tmod (m : Int) = (x : Int) := by rw [hx]; exact (Int.ofNat_tmod _ _).symm
            have ed : (k : Int).tdiv (m : Int) = (y : Int) := by rw [hy]; exact (Int.ofNat_tdiv _ _).symm
            have hxm : x < m := by rw [hx]; exact Nat.mod_lt _ (by omega)
            have hyr : y < rows := by rw [hy]; exact Nat.div_lt_of_lt_mul (by rw [← HN.out]; exact hlt)
            have hmr : m ≤ 6 ∧ rows ≤ 5 := by have h1 := HM.out.c; have h2 := HM.out.r; omega
            have ewd : IntKind.i64.wrap (y : Int) = (y : Int) := IntWalk.i64_in _ (by omega)
            have ewm : IntKind.i64.wrap (x : Int) = (x : Int) := IntWalk.i64_in _ (by omega)
            have HXY := Lib.hid (And.intro (And.intro hx hy) (And.intro (And.intro hxm hyr) hmr))
            clear hx hy hxm hyr hmr
            go_quiet (fail)
            have HL2 := Lib.hid (HL1.out.grow (below_drewN (Below.refl Wa.heap.size Wa) nq))
            clear HL1 HKl b0 b1 b2 em ed ewd ewm
            generalize Wa.drewN nq = Wb at HL2 ⊢
            obtain ⟨pk, hpk⟩ : ∃ pk, pk = place m rows k := ⟨_, rfl⟩
            obtain ⟨mk, hmk⟩ : ∃ mk, mk = mirror m k := ⟨_, rfl⟩
            have hkm : k < m * rows := by rw [← HN.out]; exact hlt
            have hpl : pk < ss.length := by rw [hpk, HN.out]; exact (place_at (by omega) hkm).2.2
            have hml : mk < ss.length := by rw [hmk, HN.out]; exact (mirror_at (by omega) hkm).2.2
            obtain ⟨xr, hxr⟩ : ∃ xr, xr = x * rows := ⟨_, rfl⟩
            obtain ⟨ym, hym⟩ : ∃ ym, ym = y * m := ⟨_, rfl⟩
            have hxy := HXY.out
            have hpke : pk = xr + y := by rw [hpk, hxr, hxy.1.1, hxy.1.2]; rfl
            have hmke : mk = ym + (m - 1 - x) := by rw [hmk, hym, hxy.1.1, hxy.1.2]; rfl
            have b1' : xr ≤ 6 * 5 := by rw [hxr]; exact Nat.mul_le_mul (by omega) (by omega)
            have b2' : ym ≤ 5 * 6 := by rw [hym]; exact Nat.mul_le_mul (by omega) (by omega)
            have e1 : IntKind.i64.wrap ((x : Int) * (rows : Int)) = (xr : Int) := by
              rw [← Int.natCast_mul, ← hxr]; exact IntWalk.i64_in _ (by omega)
            have e2 : IntKind.i64.wrap ((xr : Int) + (y : Int)) = (pk : Int) := by
              rw [hpke]; push_cast; exact IntWalk.i64_in _ (by omega)
            have e3 : IntKind.i64.wrap ((y : Int) * (m : Int)) = (ym : Int) := by
              rw [← Int.natCast_mul, ← hym]; exact IntWalk.i64_in _ (by omega)
            obtain ⟨s1, hs1⟩ : ∃ s1 : Int, s1 = (ym : Int) + (m : Int) := ⟨_, rfl⟩
            obtain ⟨s2, hs2⟩ : ∃ s2 : Int, s2 = s1 - 1 := ⟨_, rfl⟩
            have e4 : IntKind.i64.wrap ((ym : Int) + (m : Int)) = s1 := by rw [hs1]; exact IntWalk.i64_in _ (by omega)
            have e5 : IntKind.i64.wrap (s1 - 1) = s2 := by rw [hs2]; exact IntWalk.i64_in _ (by omega)
            have e6 : IntKind.i64.wrap (s2 - (x : Int)) = (mk : Int) := by rw [hs2, hs1, hmke, IntWalk.i64_in _ (by omega)]; omega
            have HPM := Lib.hid (And.intro hpk hmk)
            have HPL := Lib.hid (And.intro hpl hml)
            clear hpk hmk hkm hpl hml hxr hym hxy hpke hmke b1' b2' hs1 hs2
            as_aux_lemma =>
              go_upto_region 11 with (fail)
              have HL3 := Lib.hid (HL2.out.grow (Below.refl _ Wb).drew)
              have hC : (fun W => W.cell? ⟨q, 0, none⟩ = some (.int .i64 m)) Wb.drew := (HKd.out.grow HL3.out.b |>.box3 (q := q) (a := .int .i64 m) (b := .slice (some ⟨ha, 0, none⟩) hs.length hcap) (e := .slice (some ⟨sa, 0, none⟩) ss.length scap) (t := 25) (by simp)).1
              clear HL2
              generalize hW0 : Wb.drew = Wc at HL3 hC
              refine Lim.regC' (fun W => W.cell? ⟨q, 0, none⟩ = some (.int .i64 m)) [] #[false, false, false, false, false, false, false, false, false, false, false, false, false, false, false, false, false, false, false, false, false, false, false] (by kernel_rfl) rfl ?_
              rw [hW0]; clear hW0
              refine Lim.stepR 0 (fun _ => trivial) rfl (by kernel_rfl) (fun _ _ _ _ h => h) hC rfl ?_; apply Exists.intro; refine ⟨?_, ?_⟩
              · rintro w r1; go_simp; try with_reducible rfl
              simp only [Act.put, List.setIfInBounds_toArray, List.set_cons_succ, List.set_cons_zero]
              refine Lim.stepR 1 (fun _ => trivial) rfl (by kernel_rfl) (fun _ _ _ _ h => h) hC rfl ?_; apply Exists.intro; refine ⟨?_, ?_⟩
              · rintro w r1; go_simp; try with_reducible rfl
              simp only [Act.put, List.setIfInBounds_toArray, List.set_cons_succ, List.set_cons_zero]
              refine Lim.stepR 2 (fun _ => trivial) rfl (by kernel_rfl) (fun _ _ _ _ h => h) hC rfl ?_; apply Exists.intro; refine ⟨?_, ?_⟩
              · rintro w r1; go_simp; try with_reducible rfl
              simp only [Act.put, List.setIfInBounds_toArray, List.set_cons_succ, List.set_cons_zero]
              refine Lim.stepR 3 (fun _ => trivial) rfl (by kernel_rfl) (fun _ _ _ _ h => h) hC rfl ?_; apply Exists.intro; refine ⟨?_, ?_⟩
              · rintro w r1; go_simp; try with_reducible rfl
              simp only [Act.put, List.setIfInBounds_toArray, List.set_cons_succ, List.set_cons_zero]
              refine Lim.stepR 4 (fun _ => trivial) rfl (by kernel_rfl) (fun _ _ _ _ h => h) hC rfl ?_; apply Exists.intro; refine ⟨?_, ?_⟩
              · rintro w r1; go_simp; try with_reducible rfl
              simp only [Act.put, List.setIfInBounds_toArray, List.set_cons_succ, List.set_cons_zero]
              refine Lim.stepR 5 (fun _ => trivial) rfl (by kernel_rfl) (fun _ _ _ _ h => h) hC rfl ?_; apply Exists.intro; refine ⟨?_, ?_⟩
              · rintro w r1; go_simp; try with_reducible rfl
              simp only [Act.put, List.setIfInBounds_toArray, List.set_cons_succ, List.set_cons_zero]
              refine Lim.stepR 6 (fun _ => trivial) rfl (by kernel_rfl) (fun _ _ _ _ h => h) hC rfl ?_; apply Exists.intro; refine ⟨?_, ?_⟩
              · rintro w r1; go_simp; try with_reducible rfl
              simp only [Act.put, List.setIfInBounds_toArray, List.set_cons_succ, List.set_cons_zero]
              refine Lim.stepR 7 (fun _ => trivial) rfl (by kernel_rfl) (fun _ _ _ _ h => h) hC rfl ?_; apply Exists.intro; refine ⟨?_, ?_⟩
              · rintro w r1; go_simp; try with_reducible rfl
              simp only [Act.put, List.setIfInBounds_toArray, List.set_cons_succ, List.set_cons_zero]
              refine Lim.stepR 8 (fun _ => trivial) rfl (by kernel_rfl) (fun _ _ _ _ h => h) hC rfl ?_; apply Exists.intro; refine ⟨?_, ?_⟩
              · rintro w r1; go_simp; try with_reducible rfl
              simp only [Act.put, List.setIfInBounds_toArray, List.set_cons_succ, List.set_cons_zero]
              refine Lim.stepR 9 (fun _ => trivial) rfl (by kernel_rfl) (fun _ _ _ _ h => h) hC rfl ?_; apply Exists.intro; refine ⟨?_, ?_⟩
              · rintro w r1; go_simp; try with_reducible rfl
              simp only [Act.put, List.setIfInBounds_toArray, List.set_cons_succ, List.set_cons_zero]
              refine Lim.stepR 10 (fun _ => trivial) rfl (by kernel_rfl) (fun _ _ _ _ h => h) hC rfl ?_; apply Exists.intro; refine ⟨?_, ?_⟩
              · rintro w r1; go_simp; try with_reducible rfl
              simp only [Act.put, List.setIfInBounds_toArray, List.set_cons_succ, List.set_cons_zero]
              refine Lim.stepR 11 (fun _ => trivial) rfl (by kernel_rfl) (fun _ _ _ _ h => h) hC rfl ?_; apply Exists.intro; refine ⟨?_, ?_⟩
              · rintro w r1; go_simp; try with_reducible rfl
              simp only [Act.put, List.setIfInBounds_toArray, List.set_cons_succ, List.set_cons_zero]
              refine Lim.stepR 12 (fun _ => trivial) rfl (by kernel_rfl) (fun _ _ _ _ h => h) hC rfl ?_; apply Exists.intro; refine ⟨?_, ?_⟩
              · rintro w r1; go_simp; try with_reducible rfl
              simp only [Act.put, List.setIfInBounds_toArray, List.set_cons_succ, List.set_cons_zero]
              refine Lim.stepR 13 (fun _ => trivial) rfl (by kernel_rfl) (fun _ _ _ _ h => h) hC rfl ?_; apply Exists.intro; refine ⟨?_, ?_⟩
              · rintro w r1; go_simp; try with_reducible rfl
              simp only [Act.put, List.setIfInBounds_toArray, List.set_cons_succ, List.set_cons_zero]
              refine Lim.stepR 14 (fun _ => trivial) rfl (by kernel_rfl) (fun _ _ _ _ h => h) hC rfl ?_; apply Exists.intro; refine ⟨?_, ?_⟩
              · rintro w r1; go_simp; try with_reducible rfl
              simp only [Act.put, List.setIfInBounds_toArray, List.set_cons_succ, List.set_cons_zero]
              refine Lim.stepR 15 (fun _ => trivial) rfl (by kernel_rfl) (fun _ _ _ _ h => h) hC rfl ?_; apply Exists.intro; refine ⟨?_, ?_⟩
              · rintro w r1; go_simp; try with_reducible rfl
              simp only [Act.put, List.setIfInBounds_toArray, List.set_cons_succ, List.set_cons_zero]
              refine Lim.stepR 16 (fun _ => trivial) rfl (by kernel_rfl) (fun _ _ _ _ h => h) hC rfl ?_; apply Exists.intro; refine ⟨?_, ?_⟩
              · rintro w r1; go_simp; try with_reducible rfl
              simp only [Act.put, List.setIfInBounds_toArray, List.set_cons_succ, List.set_cons_zero]
              refine Lim.stepR 17 (fun _ => trivial) rfl (by kernel_rfl) (fun _ _ _ _ h => h) hC rfl ?_; apply Exists.intro; refine ⟨?_, ?_⟩
              · rintro w r1; go_simp; try with_reducible rfl
              simp only [Act.put, List.setIfInBounds_toArray, List.set_cons_succ, List.set_cons_zero]
              refine Lim.stepR 18 (fun _ => trivial) rfl (by kernel_rfl) (fun _ _ _ _ h => h) hC rfl ?_; apply Exists.intro; refine ⟨?_, ?_⟩
              · rintro w r1; go_simp; try with_reducible rfl
              simp only [Act.put, List.setIfInBounds_toArray, List.set_cons_succ, List.set_cons_zero]
              refine Lim.stepR 19 (fun _ => trivial) rfl (by kernel_rfl) (fun _ _ _ _ h => h) hC rfl ?_; apply Exists.intro; refine ⟨?_, ?_⟩
              · rintro w r1; go_simp; try with_reducible rfl
              simp only [Act.put, List.setIfInBounds_toArray, List.set_cons_succ, List.set_cons_zero]
              refine Lim.stepE 20 (fun _ => trivial) rfl (by kernel_rfl) rfl (fun K hK => ?_)   -- E store
              have zz0 := HL3.out.pl.cellAt k (by omega)
              rw [ints_at' _ k (by rw [HP.out.lp]; exact hlt)] at zz0
              have zzf := HL3.out.pl.frozenAt k
              have HL4 := Lib.hid (HL3.out.put_pl k (pk : Int))
              have hC2 : (fun W => W.cell? ⟨q, 0, none⟩ = some (.int .i64 m)) (Wc.setCell ⟨pP, k, none⟩ (.int .i64 (pk : Int))) := (HKd.out.grow HL4.out.b |>.box3 (q := q) (a := .int .i64 m) (b := .slice (some ⟨ha, 0, none⟩) hs.length hcap) (e := .slice (some ⟨sa, 0, none⟩) ss.length scap) (t := 25) (by simp)).1
              go_simp
              refine hK _ _ hC2 ?_
              clear zz0 zzf HL3
              generalize Wc.setCell ⟨pP, k, none⟩ (.int .i64 (pk : Int)) = Wd at HL4 hC2 ⊢
              simp only [Act.put, List.setIfInBounds_toArray, List.set_cons_succ, List.set_cons_zero]
              refine Lim.stepR 21 (fun _ => trivial) rfl (by kernel_rfl) (fun _ _ _ _ h => h) hC2 rfl ?_; apply Exists.intro; refine ⟨?_, ?_⟩
              · rintro w r1; go_simp; try with_reducible rfl
              simp only [Act.put, List.setIfInBounds_toArray, List.set_cons_succ, List.set_cons_zero]
              refine Lim.stepE 22 (fun _ => trivial) rfl (by kernel_rfl) rfl (fun K hK => ?_)   -- E store
              have zz0 := HL4.out.mi.cellAt k (by omega)
              rw [ints_at' _ k (by rw [HP.out.lm]; exact hlt)] at zz0
              have zzf := HL4.out.mi.frozenAt k
              have HL5 := Lib.hid (HL4.out.put_mi k (mk : Int))
              have hC3 : (fun W => W.cell? ⟨q, 0, none⟩ = some (.int .i64 m)) (Wd.setCell ⟨pM, k, none⟩ (.int .i64 (mk : Int))) := (HKd.out.grow HL5.out.b |>.box3 (q := q) (a := .int .i64 m) (b := .slice (some ⟨ha, 0, none⟩) hs.length hcap) (e := .slice (some ⟨sa, 0, none⟩) ss.length scap) (t := 25) (by simp)).1
              go_simp
              refine hK _ _ hC3 ?_
              clear zz0 zzf HL4
              generalize Wd.setCell ⟨pM, k, none⟩ (.int .i64 (mk : Int)) = We at HL5 hC3 ⊢
              simp only [Act.put, List.setIfInBounds_toArray, List.set_cons_succ, List.set_cons_zero]
              refine Lim.stepD (by kernel_rfl) ?_
              clear hC3 e1 e2 e3 e4 e5 e6
              as_aux_lemma =>
                have hpl : pk < ss.length := HPL.out.1
                have hml : mk < ss.length := HPL.out.2
                have hpli : (pk : Int) < (ss.length : Int) := by omega
                have hmli : (mk : Int) < (ss.length : Int) := by omega
                have hth : hs.length = ss.length := HLN.out.1
                obtain ⟨⟨lo, hi⟩, hx⟩ : ∃ x, x = hs.getD k (0, 0) := ⟨_, rfl⟩
                have CF12 : Hid (∀ (O' Ts' Bs' Mm' : List Int) (Th' Bh' : List (Int × Int)) (W : World), TuL W1 m rows ss.length p6 p7 p8 hO sO hT sT hB sB pP pM kO cO kT cT kB cB ss.length ss.length hs Th' Bh' O' Ts' Bs' (Pp.set k (pk : Int)) Mm' W → (fun W => W.cell? ⟨p7, 1, none⟩ = some (.slice (some ⟨hT, 0, none⟩) ss.length kT) ∧ W.cell? ⟨p7, 2, none⟩ = some (.slice (some ⟨sT, 0, none⟩) ss.length cT) ∧ W.cell? ⟨pP, k, none⟩ = some (.int .i64 (pk : Int)) ∧ W.cell? ⟨q, 1, none⟩ = some (.slice (some ⟨ha, 0, none⟩) hs.length hcap) ∧ W.cell? ⟨ha, k * 2, none⟩ = some (.int .i64 lo) ∧ W.cell? ⟨ha, k * 2 + 1, none⟩ = some (.int .i64 hi)) W) := Lib.hid (by
                  intro O' Ts' Bs' Mm' Th' Bh' W h
                  have hk1 := (HKd.out.grow h.b).cellH (g := ha) (cap := hcap) (l := hs) (by simp) (j := k) (by omega)
                  have hk2 := ((HKd.out.grow h.b).box3 (q := q) (a := .int .i64 m) (b := .slice (some ⟨ha, 0, none⟩) hs.length hcap) (e := .slice (some ⟨sa, 0, none⟩) ss.length scap) (t := 25) (by simp)).2.1
                  have hk3 := (cell_of_heap h.x7).1
                  have hk4 := h.pl.cellAt k (by omega)
                  rw [ints_at' _ k (by rw [List.length_set, HP.out.lp]; exact hlt), ← List.getD_eq_getElem?_getD, set_at Pp HP.out.lp hlt] at hk4
                  rw [← hx] at hk1
                  exact ⟨hk3.2.1, hk3.2.2, hk4, hk2, hk1.1, hk1.2⟩)
                have CF13 : Hid (∀ (O' Ts' Bs' Pp' : List Int) (Th' Bh' : List (Int × Int)) (W : World), TuL W1 m rows ss.length p6 p7 p8 hO sO hT sT hB sB pP pM kO cO kT cT kB cB ss.length ss.length hs Th' Bh' O' Ts' Bs' Pp' (Mm.set k (mk : Int)) W → (fun W => W.cell? ⟨p8, 1, none⟩ = some (.slice (some ⟨hB, 0, none⟩) ss.length kB) ∧ W.cell? ⟨p8, 2, none⟩ = some (.slice (some ⟨sB, 0, none⟩) ss.length cB) ∧ W.cell? ⟨pM, k, none⟩ = some (.int .i64 (mk : Int)) ∧ W.cell? ⟨q, 1, none⟩ = some (.slice (some ⟨ha, 0, none⟩) hs.length hcap) ∧ W.cell? ⟨ha, k * 2, none⟩ = some (.int .i64 lo) ∧ W.cell? ⟨ha, k * 2 + 1, none⟩ = some (.int .i64 hi)) W) := Lib.hid (by
                  intro O' Ts' Bs' Pp' Th' Bh' W h
                  have hk1 := (HKd.out.grow h.b).cellH (g := ha) (cap := hcap) (l := hs) (by simp) (j := k) (by omega)
                  have hk2 := ((HKd.out.grow h.b).box3 (q := q) (a := .int .i64 m) (b := .slice (some ⟨ha, 0, none⟩) hs.length hcap) (e := .slice (some ⟨sa, 0, none⟩) ss.length scap) (t := 25) (by simp)).2.1
                  have hk3 := (cell_of_heap h.x8).1
                  have hk4 := h.mi.cellAt k (by omega)
                  rw [ints_at' _ k (by rw [List.length_set, HP.out.lm]; exact hlt), ← List.getD_eq_getElem?_getD, set_at Mm HP.out.lm hlt] at hk4
                  rw [← hx] at hk1
                  exact ⟨hk3.2.1, hk3.2.2, hk4, hk2, hk1.1, hk1.2⟩)
                have HX := Lib.hid hx
                have hi7 : (k : Int) < (hs.length : Int) := by omega
                have hlp' : k < hs.length := by omega
                clear hx hth
                as_aux_lemma =>
                  go_upto_region 12 with (fail)
                  have HL6 := Lib.hid (HL5.out.grow (Below.refl _ We).drew)
                  have hC := CF12.out _ _ _ _ _ _ _ HL6.out
                  clear HL5
                  generalize hW0 : We.drew = Wf at HL6 hC
                  refine Lim.regC' (fun W => W.cell? ⟨p7, 1, none⟩ = some (.slice (some ⟨hT, 0, none⟩) ss.length kT) ∧ W.cell? ⟨p7, 2, none⟩ = some (.slice (some ⟨sT, 0, none⟩) ss.length cT) ∧ W.cell? ⟨pP, k, none⟩ = some (.int .i64 (pk : Int)) ∧ W.cell? ⟨q, 1, none⟩ = some (.slice (some ⟨ha, 0, none⟩) hs.length hcap) ∧ W.cell? ⟨ha, k * 2, none⟩ = some (.int .i64 lo) ∧ W.cell? ⟨ha, k * 2 + 1, none⟩ = some (.int .i64 hi)) [] #[false, false, false, false, false, false, false, false, false, false, false, false, false, false, false, false, false, false, false, false, false, false] (by kernel_rfl) rfl ?_
                  rw [hW0]; clear hW0
                  refine Lim.stepR 0 (fun _ => trivial) rfl (by kernel_rfl) (fun _ _ _ _ h => h) hC rfl ?_; apply Exists.intro; refine ⟨?_, ?_⟩
                  · rintro w ⟨r1, r2, r3, r4, r5, r6⟩; go_simp; try with_reducible rfl
                  simp only [Act.put, List.setIfInBounds_toArray, List.set_cons_succ, List.set_cons_zero]
                  refine Lim.stepR 1 (fun _ => trivial) rfl (by kernel_rfl) (fun _ _ _ _ h => h) hC rfl ?_; apply Exists.intro; refine ⟨?_, ?_⟩
                  · rintro w ⟨r1, r2, r3, r4, r5, r6⟩; go_simp; try with_reducible rfl
                  simp only [Act.put, List.setIfInBounds_toArray, List.set_cons_succ, List.set_cons_zero]
                  refine Lim.stepR 2 (fun _ => trivial) rfl (by kernel_rfl) (fun _ _ _ _ h => h) hC rfl ?_; apply Exists.intro; refine ⟨?_, ?_⟩
                  · rintro w ⟨r1, r2, r3, r4, r5, r6⟩; go_simp; try with_reducible rfl
                  simp only [Act.put, List.setIfInBounds_toArray, List.set_cons_succ, List.set_cons_zero]
                  refine Lim.stepR 3 (fun _ => trivial) rfl (by kernel_rfl) (fun _ _ _ _ h => h) hC rfl ?_; apply Exists.intro; refine ⟨?_, ?_⟩
                  · rintro w ⟨r1, r2, r3, r4, r5, r6⟩; go_simp; try with_reducible rfl
                  simp only [Act.put, List.setIfInBounds_toArray, List.set_cons_succ, List.set_cons_zero]
                  refine Lim.stepR 4 (fun _ => trivial) rfl (by kernel_rfl) (fun _ _ _ _ h => h) hC rfl ?_; apply Exists.intro; refine ⟨?_, ?_⟩
                  · rintro w ⟨r1, r2, r3, r4, r5, r6⟩; go_simp; try with_reducible rfl
                  simp only [Act.put, List.setIfInBounds_toArray, List.set_cons_succ, List.set_cons_zero]
                  refine Lim.stepR 5 (fun _ => trivial) rfl (by kernel_rfl) (fun _ _ _ _ h => h) hC rfl ?_; apply Exists.intro; refine ⟨?_, ?_⟩
                  · rintro w ⟨r1, r2, r3, r4, r5, r6⟩; go_simp; try with_reducible rfl
                  simp only [Act.put, List.setIfInBounds_toArray, List.set_cons_succ, List.set_cons_zero]
                  refine Lim.stepR 6 (fun _ => trivial) rfl (by kernel_rfl) (fun _ _ _ _ h => h) hC rfl ?_; apply Exists.intro; refine ⟨?_, ?_⟩
                  · rintro w ⟨r1, r2, r3, r4, r5, r6⟩; go_simp; try with_reducible rfl
                  simp only [Act.put, List.setIfInBounds_toArray, List.set_cons_succ, List.set_cons_zero]
                  refine Lim.stepR 7 (fun _ => trivial) rfl (by kernel_rfl) (fun _ _ _ _ h => h) hC rfl ?_; apply Exists.intro; refine ⟨?_, ?_⟩
                  · rintro w ⟨r1, r2, r3, r4, r5, r6⟩; go_simp; try with_reducible rfl
                  simp only [Act.put, List.setIfInBounds_toArray, List.set_cons_succ, List.set_cons_zero]
                  refine Lim.stepR 8 (fun _ => trivial) rfl (by kernel_rfl) (fun _ _ _ _ h => h) hC rfl ?_; apply Exists.intro; refine ⟨?_, ?_⟩
                  · rintro w ⟨r1, r2, r3, r4, r5, r6⟩; go_simp; try with_reducible rfl
                  simp only [Act.put, List.setIfInBounds_toArray, List.set_cons_succ, List.set_cons_zero]
                  refine Lim.stepR 9 (fun _ => trivial) rfl (by kernel_rfl) (fun _ _ _ _ h => h) hC rfl ?_; apply Exists.intro; refine ⟨?_, ?_⟩
                  · rintro w ⟨r1, r2, r3, r4, r5, r6⟩; go_simp; try with_reducible rfl
                  simp only [Act.put, List.setIfInBounds_toArray, List.set_cons_succ, List.set_cons_zero]
                  refine Lim.stepR 10 (fun _ => trivial) rfl (by kernel_rfl) (fun _ _ _ _ h => h) hC rfl ?_; apply Exists.intro; refine ⟨?_, ?_⟩
                  · rintro w ⟨r1, r2, r3, r4, r5, r6⟩; go_simp; try with_reducible rfl
                  simp only [Act.put, List.setIfInBounds_toArray, List.set_cons_succ, List.set_cons_zero]
                  refine Lim.stepR 11 (fun _ => trivial) rfl (by kernel_rfl) (fun _ _ _ _ h => h) hC rfl ?_; apply Exists.intro; refine ⟨?_, ?_⟩
                  · rintro w ⟨r1, r2, r3, r4, r5, r6⟩; go_simp; try with_reducible rfl
                  simp only [Act.put, List.setIfInBounds_toArray, List.set_cons_succ, List.set_cons_zero]
                  refine Lim.stepR 12 (fun _ => trivial) rfl (by kernel_rfl) (fun _ _ _ _ h => h) hC rfl ?_; apply Exists.intro; refine ⟨?_, ?_⟩
                  · rintro w ⟨r1, r2, r3, r4, r5, r6⟩; go_simp; try with_reducible rfl
                  simp only [Act.put, List.setIfInBounds_toArray, List.set_cons_succ, List.set_cons_zero]
                  refine Lim.stepR 13 (fun _ => trivial) rfl (by kernel_rfl) (fun _ _ _ _ h => h) hC rfl ?_; apply Exists.intro; refine ⟨?_, ?_⟩
                  · rintro w ⟨r1, r2, r3, r4, r5, r6⟩; go_simp; try with_reducible rfl
                  simp only [Act.put, List.setIfInBounds_toArray, List.set_cons_succ, List.set_cons_zero]
                  refine Lim.stepR 14 (fun _ => trivial) rfl (by kernel_rfl) (fun _ _ _ _ h => h) hC rfl ?_; apply Exists.intro; refine ⟨?_, ?_⟩
                  · rintro w ⟨r1, r2, r3, r4, r5, r6⟩; go_simp; try with_reducible rfl
                  simp only [Act.put, List.setIfInBounds_toArray, List.set_cons_succ, List.set_cons_zero]
                  refine Lim.stepR 15 (fun _ => trivial) rfl (by kernel_rfl) (fun _ _ _ _ h => h) hC rfl ?_; apply Exists.intro; refine ⟨?_, ?_⟩
                  · rintro w ⟨r1, r2, r3, r4, r5, r6⟩; go_simp; try with_reducible rfl
                  simp only [Act.put, List.setIfInBounds_toArray, List.set_cons_succ, List.set_cons_zero]
                  refine Lim.stepR 16 (fun _ => trivial) rfl (by kernel_rfl) (fun _ _ _ _ h => h) hC rfl ?_; apply Exists.intro; refine ⟨?_, ?_⟩
                  · rintro w ⟨r1, r2, r3, r4, r5, r6⟩; go_simp; try with_reducible rfl
                  simp only [Act.put, List.setIfInBounds_toArray, List.set_cons_succ, List.set_cons_zero]
                  refine Lim.stepR 17 (fun _ => trivial) rfl (by kernel_rfl) (fun _ _ _ _ h => h) hC rfl ?_; apply Exists.intro; refine ⟨?_, ?_⟩
                  · rintro w ⟨r1, r2, r3, r4, r5, r6⟩; go_simp; try with_reducible rfl
                  simp only [Act.put, List.setIfInBounds_toArray, List.set_cons_succ, List.set_cons_zero]
                  refine Lim.stepR 18 (fun _ => trivial) rfl (by kernel_rfl) (fun _ _ _ _ h => h) hC rfl ?_; apply Exists.intro; refine ⟨?_, ?_⟩
                  · rintro w ⟨r1, r2, r3, r4, r5, r6⟩; go_simp; try with_reducible rfl
                  simp only [Act.put, List.setIfInBounds_toArray, List.set_cons_succ, List.set_cons_zero]
                  refine Lim.stepE 19 (fun _ => trivial) rfl (by kernel_rfl) rfl (fun K hK => ?_)   -- E store
                  have zz0 := HL6.out.ts.cellAt pk (by omega)
                  rw [ints_at' _ pk (by rw [HP.out.lt]; exact hpl)] at zz0
                  have zzf := HL6.out.ts.frozenAt pk
                  have HL7 := Lib.hid (HL6.out.put_ts pk sk)
                  have hC2 := CF12.out _ _ _ _ _ _ _ HL7.out
                  go_simp
                  refine hK _ _ hC2 ?_
                  clear zz0 zzf HL6
                  generalize Wf.setCell ⟨sT, pk, none⟩ (.int .i64 sk) = Wg at HL7 hC2 ⊢
                  simp only [Act.put, List.setIfInBounds_toArray, List.set_cons_succ, List.set_cons_zero]
                  refine Lim.stepR 20 (fun _ => trivial) rfl (by kernel_rfl) (fun _ _ _ _ h => h) hC2 rfl ?_; apply Exists.intro; refine ⟨?_, ?_⟩
                  · rintro w ⟨r1, r2, r3, r4, r5, r6⟩; go_simp; try with_reducible rfl
                  simp only [Act.put, List.setIfInBounds_toArray, List.set_cons_succ, List.set_cons_zero]
                  refine Lim.stepE 21 (fun _ => trivial) rfl (by kernel_rfl) rfl (fun K hK => ?_)   -- E store
                  obtain ⟨⟨kk0, kk1⟩, gg0, gg1⟩ := span_at HL7.out.th hpl
                  have kk1' : (Wg.setCell ⟨hT, pk * 2, none⟩ (.int .i64 lo)).cell? ⟨hT, pk * 2 + 1, none⟩ = some _ := (setCell_off _ _ (by omega)).trans kk1
                  have gg1' : (Wg.setCell ⟨hT, pk * 2, none⟩ (.int .i64 lo)).frozen? ⟨hT, pk * 2 + 1, none⟩ = false := (World.frozen?_setCell ..).trans gg1
                  have HL8 := Lib.hid (HL7.out.put_th pk (lo, hi))
                  have hC3 := CF12.out _ _ _ _ _ _ _ HL8.out
                  dsimp only at HL8 hC3
                  clear kk1 gg1
                  go_simp
                  clear HL7 kk0 kk1' gg0 gg1'
                  generalize (Wg.setCell ⟨hT, pk * 2, none⟩ (.int .i64 lo)).setCell ⟨hT, pk * 2 + 1, none⟩ (.int .i64 hi) = Wh at HL8 hC3 ⊢
                  refine hK _ _ hC3 ?_
                  simp only [Act.put, List.setIfInBounds_toArray, List.set_cons_succ, List.set_cons_zero]
                  refine Lim.stepD (by kernel_rfl) ?_
                  clear hC3
                  as_aux_lemma =>
                    go_upto_region 13 with (fail)
                    have HL9 := Lib.hid (HL8.out.grow (Below.refl _ Wh).drew)
                    have hC := CF13.out _ _ _ _ _ _ _ HL9.out
                    clear HL8
                    generalize hW0 : Wh.drew = Wi at HL9 hC
                    refine Lim.regC' (fun W => W.cell? ⟨p8, 1, none⟩ = some (.slice (some ⟨hB, 0, none⟩) ss.length kB) ∧ W.cell? ⟨p8, 2, none⟩ = some (.slice (some ⟨sB, 0, none⟩) ss.length cB) ∧ W.cell? ⟨pM, k, none⟩ = some (.int .i64 (mk : Int)) ∧ W.cell? ⟨q, 1, none⟩ = some (.slice (some ⟨ha, 0, none⟩) hs.length hcap) ∧ W.cell? ⟨ha, k * 2, none⟩ = some (.int .i64 lo) ∧ W.cell? ⟨ha, k * 2 + 1, none⟩ = some (.int .i64 hi)) [] #[false, false, false, false, false, false, false, false, false, false, false, false, false, false, false, false, false, false, false, false, false, false] (by kernel_rfl) rfl ?_
                    rw [hW0]; clear hW0
                    refine Lim.stepR 0 (fun _ => trivial) rfl (by kernel_rfl) (fun _ _ _ _ h => h) hC rfl ?_; apply Exists.intro; refine ⟨?_, ?_⟩
                    · rintro w ⟨r1, r2, r3, r4, r5, r6⟩; go_simp; try with_reducible rfl
                    simp only [Act.put, List.setIfInBounds_toArray, List.set_cons_succ, List.set_cons_zero]
                    refine Lim.stepR 1 (fun _ => trivial) rfl (by kernel_rfl) (fun _ _ _ _ h => h) hC rfl ?_; apply Exists.intro; refine ⟨?_, ?_⟩
                    · rintro w ⟨r1, r2, r3, r4, r5, r6⟩; go_simp; try with_reducible rfl
                    simp only [Act.put, List.setIfInBounds_toArray, List.set_cons_succ, List.set_cons_zero]
                    refine Lim.stepR 2 (fun _ => trivial) rfl (by kernel_rfl) (fun _ _ _ _ h => h) hC rfl ?_; apply Exists.intro; refine ⟨?_, ?_⟩
                    · rintro w ⟨r1, r2, r3, r4, r5, r6⟩; go_simp; try with_reducible rfl
                    simp only [Act.put, List.setIfInBounds_toArray, List.set_cons_succ, List.set_cons_zero]
                    refine Lim.stepR 3 (fun _ => trivial) rfl (by kernel_rfl) (fun _ _ _ _ h => h) hC rfl ?_; apply Exists.intro; refine ⟨?_, ?_⟩
                    · rintro w ⟨r1, r2, r3, r4, r5, r6⟩; go_simp; try with_reducible rfl
                    simp only [Act.put, List.setIfInBounds_toArray, List.set_cons_succ, List.set_cons_zero]
                    refine Lim.stepR 4 (fun _ => trivial) rfl (by kernel_rfl) (fun _ _ _ _ h => h) hC rfl ?_; apply Exists.intro; refine ⟨?_, ?_⟩
                    · rintro w ⟨r1, r2, r3, r4, r5, r6⟩; go_simp; try with_reducible rfl
                    simp only [Act.put, List.setIfInBounds_toArray, List.set_cons_succ, List.set_cons_zero]
                    refine Lim.stepR 5 (fun _ => trivial) rfl (by kernel_rfl) (fun _ _ _ _ h => h) hC rfl ?_; apply Exists.intro; refine ⟨?_, ?_⟩
                    · rintro w ⟨r1, r2, r3, r4, r5, r6⟩; go_simp; try with_reducible rfl
                    simp only [Act.put, List.setIfInBounds_toArray, List.set_cons_succ, List.set_cons_zero]
                    refine Lim.stepR 6 (fun _ => trivial) rfl (by kernel_rfl) (fun _ _ _ _ h => h) hC rfl ?_; apply Exists.intro; refine ⟨?_, ?_⟩
                    · rintro w ⟨r1, r2, r3, r4, r5, r6⟩; go_simp; try with_reducible rfl
                    simp only [Act.put, List.setIfInBounds_toArray, List.set_cons_succ, List.set_cons_zero]
                    refine Lim.stepR 7 (fun _ => trivial) rfl (by kernel_rfl) (fun _ _ _ _ h => h) hC rfl ?_; apply Exists.intro; refine ⟨?_, ?_⟩
                    · rintro w ⟨r1, r2, r3, r4, r5, r6⟩; go_simp; try with_reducible rfl
                    simp only [Act.put, List.setIfInBounds_toArray, List.set_cons_succ, List.set_cons_zero]
                    refine Lim.stepR 8 (fun _ => trivial) rfl (by kernel_rfl) (fun _ _ _ _ h => h) hC rfl ?_; apply Exists.intro; refine ⟨?_, ?_⟩
                    · rintro w ⟨r1, r2, r3, r4, r5, r6⟩; go_simp; try with_reducible rfl
                    simp only [Act.put, List.setIfInBounds_toArray, List.set_cons_succ, List.set_cons_zero]
                    refine Lim.stepR 9 (fun _ => trivial) rfl (by kernel_rfl) (fun _ _ _ _ h => h) hC rfl ?_; apply Exists.intro; refine ⟨?_, ?_⟩
                    · rintro w ⟨r1, r2, r3, r4, r5, r6⟩; go_simp; try with_reducible rfl
                    simp only [Act.put, List.setIfInBounds_toArray, List.set_cons_succ, List.set_cons_zero]
                    refine Lim.stepR 10 (fun _ => trivial) rfl (by kernel_rfl) (fun _ _ _ _ h => h) hC rfl ?_; apply Exists.intro; refine ⟨?_, ?_⟩
                    · rintro w ⟨r1, r2, r3, r4, r5, r6⟩; go_simp; try with_reducible rfl
                    simp only [Act.put, List.setIfInBounds_toArray, List.set_cons_succ, List.set_cons_zero]
                    refine Lim.stepR 11 (fun _ => trivial) rfl (by kernel_rfl) (fun _ _ _ _ h => h) hC rfl ?_; apply Exists.intro; refine ⟨?_, ?_⟩
                    · rintro w ⟨r1, r2, r3, r4, r5, r6⟩; go_simp; try with_reducible rfl
                    simp only [Act.put, List.setIfInBounds_toArray, List.set_cons_succ, List.set_cons_zero]
                    refine Lim.stepR 12 (fun _ => trivial) rfl (by kernel_rfl) (fun _ _ _ _ h => h) hC rfl ?_; apply Exists.intro; refine ⟨?_, ?_⟩
                    · rintro w ⟨r1, r2, r3, r4, r5, r6⟩; go_simp; try with_reducible rfl
                    simp only [Act.put, List.setIfInBounds_toArray, List.set_cons_succ, List.set_cons_zero]
                    refine Lim.stepR 13 (fun _ => trivial) rfl (by kernel_rfl) (fun _ _ _ _ h => h) hC rfl ?_; apply Exists.intro; refine ⟨?_, ?_⟩
                    · rintro w ⟨r1, r2, r3, r4, r5, r6⟩; go_simp; try with_reducible rfl
                    simp only [Act.put, List.setIfInBounds_toArray, List.set_cons_succ, List.set_cons_zero]
                    refine Lim.stepR 14 (fun _ => trivial) rfl (by kernel_rfl) (fun _ _ _ _ h => h) hC rfl ?_; apply Exists.intro; refine ⟨?_, ?_⟩
                    · rintro w ⟨r1, r2, r3, r4, r5, r6⟩; go_simp; try with_reducible rfl
                    simp only [Act.put, List.setIfInBounds_toArray, List.set_cons_succ, List.set_cons_zero]
                    refine Lim.stepR 15 (fun _ => trivial) rfl (by kernel_rfl) (fun _ _ _ _ h => h) hC rfl ?_; apply Exists.intro; refine ⟨?_, ?_⟩
                    · rintro w ⟨r1, r2, r3, r4, r5, r6⟩; go_simp; try with_reducible rfl
                    simp only [Act.put, List.setIfInBounds_toArray, List.set_cons_succ, List.set_cons_zero]
                    refine Lim.stepR 16 (fun _ => trivial) rfl (by kernel_rfl) (fun _ _ _ _ h => h) hC rfl ?_; apply Exists.intro; refine ⟨?_, ?_⟩
                    · rintro w ⟨r1, r2, r3, r4, r5, r6⟩; go_simp; try with_reducible rfl
                    simp only [Act.put, List.setIfInBounds_toArray, List.set_cons_succ, List.set_cons_zero]
                    refine Lim.stepR 17 (fun _ => trivial) rfl (by kernel_rfl) (fun _ _ _ _ h => h) hC rfl ?_; apply Exists.intro; refine ⟨?_, ?_⟩
                    · rintro w ⟨r1, r2, r3, r4, r5, r6⟩; go_simp; try with_reducible rfl
                    simp only [Act.put, List.setIfInBounds_toArray, List.set_cons_succ, List.set_cons_zero]
                    refine Lim.stepR 18 (fun _ => trivial) rfl (by kernel_rfl) (fun _ _ _ _ h => h) hC rfl ?_; apply Exists.intro; refine ⟨?_, ?_⟩
                    · rintro w ⟨r1, r2, r3, r4, r5, r6⟩; go_simp; try with_reducible rfl
                    simp only [Act.put, List.setIfInBounds_toArray, List.set_cons_succ, List.set_cons_zero]
                    refine Lim.stepE 19 (fun _ => trivial) rfl (by kernel_rfl) rfl (fun K hK => ?_)   -- E store
                    have zz0 := HL9.out.bs.cellAt mk (by omega)
                    rw [ints_at' _ mk (by rw [HP.out.lb]; exact hml)] at zz0
                    have zzf := HL9.out.bs.frozenAt mk
                    have HL10 := Lib.hid (HL9.out.put_bs mk sk)
                    have hC2 := CF13.out _ _ _ _ _ _ _ HL10.out
                    go_simp
                    refine hK _ _ hC2 ?_
                    clear zz0 zzf HL9
                    generalize Wi.setCell ⟨sB, mk, none⟩ (.int .i64 sk) = Wj at HL10 hC2 ⊢
                    simp only [Act.put, List.setIfInBounds_toArray, List.set_cons_succ, List.set_cons_zero]
                    refine Lim.stepR 20 (fun _ => trivial) rfl (by kernel_rfl) (fun _ _ _ _ h => h) hC2 rfl ?_; apply Exists.intro; refine ⟨?_, ?_⟩
                    · rintro w ⟨r1, r2, r3, r4, r5, r6⟩; go_simp; try with_reducible rfl
                    simp only [Act.put, List.setIfInBounds_toArray, List.set_cons_succ, List.set_cons_zero]
                    refine Lim.stepE 21 (fun _ => trivial) rfl (by kernel_rfl) rfl (fun K hK => ?_)   -- E store
                    obtain ⟨⟨kk0, kk1⟩, gg0, gg1⟩ := span_at HL10.out.bh hml
                    have kk1' : (Wj.setCell ⟨hB, mk * 2, none⟩ (.int .i64 lo)).cell? ⟨hB, mk * 2 + 1, none⟩ = some _ := (setCell_off _ _ (by omega)).trans kk1
                    have gg1' : (Wj.setCell ⟨hB, mk * 2, none⟩ (.int .i64 lo)).frozen? ⟨hB, mk * 2 + 1, none⟩ = false := (World.frozen?_setCell ..).trans gg1
                    have HL11 := Lib.hid (HL10.out.put_bh mk (lo, hi))
                    have hC3 := CF13.out _ _ _ _ _ _ _ HL11.out
                    dsimp only at HL11 hC3
                    clear kk1 gg1
                    go_simp
                    clear HL10 kk0 kk1' gg0 gg1'
                    generalize (Wj.setCell ⟨hB, mk * 2, none⟩ (.int .i64 lo)).setCell ⟨hB, mk * 2 + 1, none⟩ (.int .i64 hi) = Wk at HL11 hC3 ⊢
                    refine hK _ _ hC3 ?_
                    simp only [Act.put, List.setIfInBounds_toArray, List.set_cons_succ, List.set_cons_zero]
                    refine Lim.stepD (by kernel_rfl) ?_
                    as_aux_lemma =>
                      clear hC3 CF12 CF13
                      go_wp2
                      go_roundw
                      case rel => exact ⟨k + 1, O.set k (flip sk), Ts.set pk sk, Bs.set mk sk, Pp.set k (pk : Int), Mm.set k (mk : Int), Th.set pk (lo, hi), Bh.set mk (lo, hi), by omega, by go_num, Lib.hid (by
                          have h := HP.out.put (by omega) HN.out hlt
                          rw [← HSK.out, ← HPM.out.1, ← HPM.out.2, ← HX.out] at h
                          exact h), HL11⟩
                      case measure => simp [intOf]; omega
        · have hkn : k = ss.length := by omega
          subst hkn
          have hm0 : 0 < m := by have := HM.out.c; omega
          have hr0 : 0 < rows := by have := HM.out.r; omega
          have HTA : Hid (TuA m m hs hs ss O id true ∧ TuA m rows hs Th ss Ts (place m rows) false ∧ TuA m m hs Bh ss Bs (mirror m) false) := Lib.hid ⟨HP.out.other HO.out rfl hm0 HN.out, HP.out.tall HO.out rfl hm0 hr0 HN.out, HP.out.back HO.out rfl hm0 HN.out⟩
          have HPM : Hid ((Pp.length = ss.length ∧ Mm.length = ss.length) ∧ (∀ c, c < ss.length → Pp.getD c 0 = (place m rows c : Nat)) ∧ ∀ c, c < ss.length → Mm.getD c 0 = (mirror m c : Nat)) := Lib.hid ⟨⟨HP.out.lp, HP.out.lm⟩, HP.out.p, HP.out.m⟩
          have HK1 : Hid (Kept w S w.heap.size c' [rwI (.slice (some ⟨pM, 0, none⟩) ss.length ss.length) Mm, rwI (.slice (some ⟨pP, 0, none⟩) ss.length ss.length) Pp, rwI (.slice (some ⟨sB, 0, none⟩) ss.length cB) Bs, rwH (.slice (some ⟨hB, 0, none⟩) ss.length kB) Bh, rwI (.slice (some ⟨sT, 0, none⟩) ss.length cT) Ts, rwH (.slice (some ⟨hT, 0, none⟩) ss.length kT) Th, rwI (.slice (some ⟨sO, 0, none⟩) ss.length cO) O, rwH (.slice (some ⟨hO, 0, none⟩) ss.length kO) hs, rwI (.slice (some ⟨ta, 0, none⟩) T.length tcap) T, rwI (.slice (some ⟨sa, 0, none⟩) ss.length scap) ss, rwH (.slice (some ⟨ha, 0, none⟩) hs.length hcap) hs] [(p8, Obj.cells #[.int .i64 m, .slice (some ⟨hB, 0, none⟩) ss.length kB, .slice (some ⟨sB, 0, none⟩) ss.length cB] 25 (0, 0)), (p7, Obj.cells #[.int .i64 rows, .slice (some ⟨hT, 0, none⟩) ss.length kT, .slice (some ⟨sT, 0, none⟩) ss.length cT] 25 (0, 0)), (p6, Obj.cells #[.int .i64 m, .slice (some ⟨hO, 0, none⟩) ss.length kO, .slice (some ⟨sO, 0, none⟩) ss.length cO] 25 (0, 0)), (q, Obj.cells #[.int .i64 m, .slice (some ⟨ha, 0, none⟩) hs.length hcap, .slice (some ⟨sa, 0, none⟩) ss.length scap] 25 (0, 0))] wr) := Lib.hid (by
            have hS := HKd.out.o.2.2
            have h := HL.out
            have hp := HP.out
            have h0 := HLN.out.1
            have h1 := HKd.out.grow h.b
            have o1 : (rwH (.slice (some ⟨hO, 0, none⟩) ss.length kO) hs).Owned wr S := by show wr.ownsRow S _ 2 _ hs.length _; rw [h0]; exact owns_mono h.oh hS
            have o2 : (rwI (.slice (some ⟨sO, 0, none⟩) ss.length cO) O).Owned wr S := by show wr.ownsRow S _ 1 _ O.length _; rw [hp.lo]; exact owns_mono h.os hS
            have o3 : (rwH (.slice (some ⟨hT, 0, none⟩) ss.length kT) Th).Owned wr S := by show wr.ownsRow S _ 2 _ Th.length _; rw [hp.lth]; exact owns_mono h.th hS
            have o4 : (rwI (.slice (some ⟨sT, 0, none⟩) ss.length cT) Ts).Owned wr S := by show wr.ownsRow S _ 1 _ Ts.length _; rw [hp.lt]; exact owns_mono h.ts hS
            have o5 : (rwH (.slice (some ⟨hB, 0, none⟩) ss.length kB) Bh).Owned wr S := by show wr.ownsRow S _ 2 _ Bh.length _; rw [hp.lbh]; exact owns_mono h.bh hS
            have o6 : (rwI (.slice (some ⟨sB, 0, none⟩) ss.length cB) Bs).Owned wr S := by show wr.ownsRow S _ 1 _ Bs.length _; rw [hp.lb]; exact owns_mono h.bs hS
            have o7 : (rwI (.slice (some ⟨pP, 0, none⟩) ss.length ss.length) Pp).Owned wr S := by show wr.ownsRow S _ 1 _ Pp.length _; rw [hp.lp]; exact owns_mono h.pl hS
            have o8 : (rwI (.slice (some ⟨pM, 0, none⟩) ss.length ss.length) Mm).Owned wr S := by show wr.ownsRow S _ 1 _ Mm.length _; rw [hp.lm]; exact owns_mono h.mi hS
            exact ((((((((((h1.addR (Nat.le_refl _) o1).addR (Nat.le_refl _) o2).addR (Nat.le_refl _) o3).addR (Nat.le_refl _) o4).addR (Nat.le_refl _) o5).addR (Nat.le_refl _) o6).addR (Nat.le_refl _) o7).addR (Nat.le_refl _) o8).addX (Nat.le_trans hS h.lo.1) h.x6).addX (Nat.le_trans hS h.lo.2.1) h.x7).addX (Nat.le_trans hS h.lo.2.2) h.x8)
          clear HL HP hm0 hr0 hlt hk
          obtain ⟨b0, b1, b2⟩ := HK1.out.box3 (q := q) (a := .int .i64 m) (b := .slice (some ⟨ha, 0, none⟩) hs.length hcap) (e := .slice (some ⟨sa, 0, none⟩) ss.length scap) (t := 25) (by simp)
          go_wp2_with fail
          refine (Saddle_any (B := wr.heap.size) (Nat.le_refl _) (HK1.out.rsH (v := .slice (some ⟨ha, 0, none⟩) hs.length hcap) (hs := hs) (by simp)) (HK1.out.rsI (v := .slice (some ⟨sa, 0, none⟩) ss.length scap) (l := ss) (by simp))).mono ?_
          rintro e w20 ⟨x, y, er, rfl, hb, hans⟩
          have HSD := Lib.hid hans
          have HKa := Lib.hid (HK1.out.grow hb)
          clear hb hans HK1 b0 b1 b2
          go_upto_region 16 with (fail)
          have HKb := Lib.hid (HKa.out.lay (.cells #[.int .i64 x, .int .i64 y] 54))
          obtain ⟨q15, hqe⟩ : ∃ q, q = w20.heap.size := ⟨_, rfl⟩
          simp only [← hqe] at HKb ⊢
          generalize w20.alloc (.cells #[.int .i64 x, .int .i64 y] 54) = w21 at HKb ⊢
          clear HKa hqe
          obtain ⟨b0, b1, b2⟩ := HKb.out.box3 (q := q) (a := .int .i64 m) (b := .slice (some ⟨ha, 0, none⟩) hs.length hcap) (e := .slice (some ⟨sa, 0, none⟩) ss.length scap) (t := 25) (by simp)
          go_wp2_with fail
          refine (Sides_any (B := w21.heap.size) (Nat.le_refl _) (HKb.out.rsH (v := .slice (some ⟨ha, 0, none⟩) hs.length hcap) (hs := hs) (by simp)) (HKb.out.rsI (v := .slice (some ⟨sa, 0, none⟩) ss.length scap) (l := ss) (by simp))).mono ?_
          rintro e w22 ⟨v17, e17, sl, rfl, hb, hans, ho⟩
          obtain ⟨rfl, hsg, hsl⟩ := sides_ok HO.out hans
          have HSG := Lib.hid (And.intro hsg hsl)
          have HKc := Lib.hid ((HKb.out.grow hb).addR (r := rwS v17 sl) HKb.out.o.2.2 ho)
          obtain ⟨a17, c17, rfl⟩ : ∃ g cap, v17 = .slice (some ⟨g, 0, none⟩) sl.length cap := form_pos (r := rwS v17 sl) ho (show 0 < sl.length by have h1 := HLN.out; have h2 := HSG.out.2; omega)
          clear hb hans ho hsg hsl HKb b0 b1 b2
          obtain ⟨b0, b1, b2⟩ := HKc.out.box3 (q := q) (a := .int .i64 m) (b := .slice (some ⟨ha, 0, none⟩) hs.length hcap) (e := .slice (some ⟨sa, 0, none⟩) ss.length scap) (t := 25) (by simp)
          go_wp2_with fail
          refine (Saddles_any (B := w22.heap.size) (Nat.le_refl _) (HKc.out.rsH (v := .slice (some ⟨ha, 0, none⟩) hs.length hcap) (hs := hs) (by simp)) (HKc.out.rsI (v := .slice (some ⟨sa, 0, none⟩) ss.length scap) (l := ss) (by simp))).mono ?_
          rintro e w24 ⟨v19, x', y', er', LA, rfl, hb, hans, ho, hn0, hn1⟩
          obtain ⟨rfl, rfl, rfl⟩ := HSD.out.unique hans
          have HKd2 := Lib.hid ((HKc.out.grow hb).addR (r := rwN v19 LA) HKc.out.o.2.2 ho)
          obtain ⟨a19, c19, rfl⟩ : ∃ a cap, v19 = .slice a LA.length cap := row_form (r := rwN v19 LA) ho
          have HCA : Hid (CanList m hs ss y er LA) := Lib.hid ⟨hn0, hn1⟩
          clear hb hans ho hn0 hn1 HKc b0 b1 b2
          have hne : (er != er) = false := by simp
          have hls : ((sl.length : Nat) : Int) = ((ss.length : Nat) : Int) := by rw [HSG.out.2]
          obtain ⟨b0, b1, b2⟩ := HKd2.out.box3 (q := q) (a := .int .i64 m) (b := .slice (some ⟨ha, 0, none⟩) hs.length hcap) (e := .slice (some ⟨sa, 0, none⟩) ss.length scap) (t := 25) (by simp)
          obtain ⟨u0, u1, u2⟩ := HKd2.out.box3 (q := p6) (a := .int .i64 m) (b := .slice (some ⟨hO, 0, none⟩) ss.length kO) (e := .slice (some ⟨sO, 0, none⟩) ss.length cO) (t := 25) (by simp); obtain ⟨v0, v1, v2⟩ := HKd2.out.box3 (q := p7) (a := .int .i64 rows) (b := .slice (some ⟨hT, 0, none⟩) ss.length kT) (e := .slice (some ⟨sT, 0, none⟩) ss.length cT) (t := 25) (by simp); obtain ⟨x0, x1, x2⟩ := HKd2.out.box3 (q := p8) (a := .int .i64 m) (b := .slice (some ⟨hB, 0, none⟩) ss.length kB) (e := .slice (some ⟨sB, 0, none⟩) ss.length cB) (t := 25) (by simp)
          go_wp2_with fail
          have HKf := Lib.hid (HKd2.out.lay (.cells #[.int .i64 m, .slice (some ⟨hO, 0, none⟩) ss.length kO, .slice (some ⟨sO, 0, none⟩) ss.length cO, .int .i64 rows, .slice (some ⟨hT, 0, none⟩) ss.length kT, .slice (some ⟨sT, 0, none⟩) ss.length cT, .int .i64 m, .slice (some ⟨hB, 0, none⟩) ss.length kB, .slice (some ⟨sB, 0, none⟩) ss.length cB] 25))
          obtain ⟨q20, hqe⟩ : ∃ q, q = w24.heap.size := ⟨_, rfl⟩
          simp only [← hqe] at HKf ⊢
          generalize w24.alloc (.cells #[.int .i64 m, .slice (some ⟨hO, 0, none⟩) ss.length kO, .slice (some ⟨sO, 0, none⟩) ss.length cO, .int .i64 rows, .slice (some ⟨hT, 0, none⟩) ss.length kT, .slice (some ⟨sT, 0, none⟩) ss.length cT, .int .i64 m, .slice (some ⟨hB, 0, none⟩) ss.length kB, .slice (some ⟨sB, 0, none⟩) ss.length cB] 25) = w25 at HKf ⊢
          clear HKd2 hqe
          clear b0 b1 b2 u0 u1 u2 v0 v1 v2 x0 x1 x2 hne hls
          go_loopw [180] (fun i W => ∃ k : Nat, k ≤ 3 ∧ i = .int .i64 k ∧ Hid (Kept w S w.heap.size c' [rwN (.slice a19 LA.length c19) LA, rwS (.slice (some ⟨a17, 0, none⟩) sl.length c17) sl, rwI (.slice (some ⟨pM, 0, none⟩) ss.length ss.length) Mm, rwI (.slice (some ⟨pP, 0, none⟩) ss.length ss.length) Pp, rwI (.slice (some ⟨sB, 0, none⟩) ss.length cB) Bs, rwH (.slice (some ⟨hB, 0, none⟩) ss.length kB) Bh, rwI (.slice (some ⟨sT, 0, none⟩) ss.length cT) Ts, rwH (.slice (some ⟨hT, 0, none⟩) ss.length kT) Th, rwI (.slice (some ⟨sO, 0, none⟩) ss.length cO) O, rwH (.slice (some ⟨hO, 0, none⟩) ss.length kO) hs, rwI (.slice (some ⟨ta, 0, none⟩) T.length tcap) T, rwI (.slice (some ⟨sa, 0, none⟩) ss.length scap) ss, rwH (.slice (some ⟨ha, 0, none⟩) hs.length hcap) hs] [(q20, Obj.cells #[.int .i64 m, .slice (some ⟨hO, 0, none⟩) ss.length kO, .slice (some ⟨sO, 0, none⟩) ss.length cO, .int .i64 rows, .slice (some ⟨hT, 0, none⟩) ss.length kT, .slice (some ⟨sT, 0, none⟩) ss.length cT, .int .i64 m, .slice (some ⟨hB, 0, none⟩) ss.length kB, .slice (some ⟨sB, 0, none⟩) ss.length cB] 25 (0, 0)), (q15, Obj.cells #[.int .i64 x, .int .i64 y] 54 (0, 0)), (p8, Obj.cells #[.int .i64 m, .slice (some ⟨hB, 0, none⟩) ss.length kB, .slice (some ⟨sB, 0, none⟩) ss.length cB] 25 (0, 0)), (p7, Obj.cells #[.int .i64 rows, .slice (some ⟨hT, 0, none⟩) ss.length kT, .slice (some ⟨sT, 0, none⟩) ss.length cT] 25 (0, 0)), (p6, Obj.cells #[.int .i64 m, .slice (some ⟨hO, 0, none⟩) ss.length kO, .slice (some ⟨sO, 0, none⟩) ss.length cO] 25 (0, 0)), (q, Obj.cells #[.int .i64 m, .slice (some ⟨ha, 0, none⟩) hs.length hcap, .slice (some ⟨sa, 0, none⟩) ss.length scap] 25 (0, 0))] W)) (fun i _ => 3 - (intOf i).toNat)
          case atStart => exact ⟨0, by omega, rfl, HKf⟩
          case round =>
            clear HKf
            obtain ⟨k, hk, rfl, HK⟩ := hrel
            by_cases hlt : k < 3
            · obtain ⟨mk, gk, ck, jk, dk, Hk, Qk, fk, sw, k0, k1, k2, hr1, hr2, hta, hsw⟩ : ∃ (mk gk ck jk dk : Nat) (Hk : List (Int × Int)) (Qk : List Int) (fk : Nat → Nat) (sw : Bool),
                    wr.cell? ⟨q20, k * 3, none⟩ = some (.int .i64 mk) ∧ wr.cell? ⟨q20, k * 3 + 1, none⟩ = some (.slice (some ⟨gk, 0, none⟩) ss.length ck) ∧ wr.cell? ⟨q20, k * 3 + 2, none⟩ = some (.slice (some ⟨jk, 0, none⟩) ss.length dk) ∧ rwH (.slice (some ⟨gk, 0, none⟩) ss.length ck) Hk ∈ [rwN (.slice a19 LA.length c19) LA, rwS (.slice (some ⟨a17, 0, none⟩) sl.length c17) sl, rwI (.slice (some ⟨pM, 0, none⟩) ss.length ss.length) Mm, rwI (.slice (some ⟨pP, 0, none⟩) ss.length ss.length) Pp, rwI (.slice (some ⟨sB, 0, none⟩) ss.length cB) Bs, rwH (.slice (some ⟨hB, 0, none⟩) ss.length kB) Bh, rwI (.slice (some ⟨sT, 0, none⟩) ss.length cT) Ts, rwH (.slice (some ⟨hT, 0, none⟩) ss.length kT) Th, rwI (.slice (some ⟨sO, 0, none⟩) ss.length cO) O, rwH (.slice (some ⟨hO, 0, none⟩) ss.length kO) hs, rwI (.slice (some ⟨ta, 0, none⟩) T.length tcap) T, rwI (.slice (some ⟨sa, 0, none⟩) ss.length scap) ss, rwH (.slice (some ⟨ha, 0, none⟩) hs.length hcap) hs] ∧ rwI (.slice (some ⟨jk, 0, none⟩) ss.length dk) Qk ∈ [rwN (.slice a19 LA.length c19) LA, rwS (.slice (some ⟨a17, 0, none⟩) sl.length c17) sl, rwI (.slice (some ⟨pM, 0, none⟩) ss.length ss.length) Mm, rwI (.slice (some ⟨pP, 0, none⟩) ss.length ss.length) Pp, rwI (.slice (some ⟨sB, 0, none⟩) ss.length cB) Bs, rwH (.slice (some ⟨hB, 0, none⟩) ss.length kB) Bh, rwI (.slice (some ⟨sT, 0, none⟩) ss.length cT) Ts, rwH (.slice (some ⟨hT, 0, none⟩) ss.length kT) Th, rwI (.slice (some ⟨sO, 0, none⟩) ss.length cO) O, rwH (.slice (some ⟨hO, 0, none⟩) ss.length kO) hs, rwI (.slice (some ⟨ta, 0, none⟩) T.length tcap) T, rwI (.slice (some ⟨sa, 0, none⟩) ss.length scap) ss, rwH (.slice (some ⟨ha, 0, none⟩) hs.length hcap) hs] ∧ TuA m mk hs Hk ss Qk fk sw ∧
                    (k = 0 → fk = id ∧ sw = true) ∧ (k = 1 → fk = place m rows ∧ sw = false) ∧ (k = 2 → fk = mirror m ∧ sw = false) := by
                have hx := (HK.out.x (q20, Obj.cells #[.int .i64 m, .slice (some ⟨hO, 0, none⟩) ss.length kO, .slice (some ⟨sO, 0, none⟩) ss.length cO, .int .i64 rows, .slice (some ⟨hT, 0, none⟩) ss.length kT, .slice (some ⟨sT, 0, none⟩) ss.length cT, .int .i64 m, .slice (some ⟨hB, 0, none⟩) ss.length kB, .slice (some ⟨sB, 0, none⟩) ss.length cB] 25 (0, 0)) (by simp)).2
                have h3 : k = 0 ∨ k = 1 ∨ k = 2 := by omega
                rcases h3 with rfl | rfl | rfl
                · exact ⟨m, hO, kO, sO, cO, hs, O, id, true, by simp [World.cell?, hx], by simp [World.cell?, hx], by simp [World.cell?, hx], by simp, by simp, HTA.out.1, fun _ => ⟨rfl, rfl⟩, fun h => (by cases h), fun h => (by cases h)⟩
                · exact ⟨rows, hT, kT, sT, cT, Th, Ts, place m rows, false, by simp [World.cell?, hx], by simp [World.cell?, hx], by simp [World.cell?, hx], by simp, by simp, HTA.out.2.1, fun h => (by cases h), fun _ => ⟨rfl, rfl⟩, fun h => (by cases h)⟩
                · exact ⟨m, hB, kB, sB, cB, Bh, Bs, mirror m, false, by simp [World.cell?, hx], by simp [World.cell?, hx], by simp [World.cell?, hx], by simp, by simp, HTA.out.2.2, fun h => (by cases h), fun h => (by cases h), fun _ => ⟨rfl, rfl⟩⟩
              have HR := Lib.hid (And.intro hr1 hr2)
              have HTK := Lib.hid (And.intro hta hsw)
              have hk3 : (k : Int) < 3 := by omega
              clear hr1 hr2 hta hsw
              go_upto_region 23 with (fail)
              clear k0 k1 k2
              have HKg := Lib.hid (HK.out.lay (.cells #[.int .i64 mk, .slice (some ⟨gk, 0, none⟩) ss.length ck, .slice (some ⟨jk, 0, none⟩) ss.length dk] 25))
              obtain ⟨q22, hqe⟩ : ∃ q, q = wr.heap.size := ⟨_, rfl⟩
              simp only [← hqe] at HKg ⊢
              generalize wr.alloc (.cells #[.int .i64 mk, .slice (some ⟨gk, 0, none⟩) ss.length ck, .slice (some ⟨jk, 0, none⟩) ss.length dk] 25) = wa at HKg ⊢
              clear HK hqe
              obtain ⟨b0, b1, b2⟩ := HKg.out.box3 (q := q22) (a := .int .i64 mk) (b := .slice (some ⟨gk, 0, none⟩) ss.length ck) (e := .slice (some ⟨jk, 0, none⟩) ss.length dk) (t := 25) (by simp)
              go_wp2_with fail
              refine (Saddle_any (B := wa.heap.size) (wd := mk) (Nat.le_refl _) (HKg.out.rsH (v := .slice (some ⟨gk, 0, none⟩) ss.length ck) (hs := Hk) HR.out.1) (HKg.out.rsI (v := .slice (some ⟨jk, 0, none⟩) ss.length dk) (l := Qk) HR.out.2)).mono ?_
              rintro e wb ⟨xb, yb, erb, rfl, hb, hans⟩
              obtain ⟨h1, h2, h3⟩ := HTK.out.1.sad _ _ _ _ _ _ HSD.out hans
              obtain rfl := h1.symm
              obtain rfl := h2.symm
              obtain rfl := h3.symm
              have HKh := Lib.hid (HKg.out.grow hb)
              clear hb hans HKg b0 b1 b2 h1 h2 h3
              go_upto_region 24 with (fail)
              have HKi := Lib.hid (HKh.out.lay (.cells #[.int .i64 x, .int .i64 y] 54))
              obtain ⟨q23, hqe⟩ : ∃ q, q = wb.heap.size := ⟨_, rfl⟩
              simp only [← hqe] at HKi ⊢
              generalize wb.alloc (.cells #[.int .i64 x, .int .i64 y] 54) = wc at HKi ⊢
              clear HKh hqe
              obtain ⟨b0, b1, b2⟩ := HKi.out.box3 (q := q22) (a := .int .i64 mk) (b := .slice (some ⟨gk, 0, none⟩) ss.length ck) (e := .slice (some ⟨jk, 0, none⟩) ss.length dk) (t := 25) (by simp)
              go_wp2_with fail
              refine (Sides_any (B := wc.heap.size) (wd := mk) (Nat.le_refl _) (HKi.out.rsH (v := .slice (some ⟨gk, 0, none⟩) ss.length ck) (hs := Hk) HR.out.1) (HKi.out.rsI (v := .slice (some ⟨jk, 0, none⟩) ss.length dk) (l := Qk) HR.out.2)).mono ?_
              rintro e we ⟨v25, e25, slk, rfl, hb, hans, ho⟩
              obtain ⟨rfl, hsg2, hsl2⟩ := sides_ok HTK.out.1.ok hans
              have HS2 := Lib.hid (And.intro hsl2 (HTK.out.1.sides _ _ HSG.out.1 hsg2))
              have HKj := Lib.hid ((HKi.out.grow hb).addR (r := rwS v25 slk) HKi.out.o.2.2 ho)
              obtain ⟨a25, c25, rfl⟩ : ∃ g cap, v25 = .slice (some ⟨g, 0, none⟩) slk.length cap := form_pos (r := rwS v25 slk) ho (show 0 < slk.length by have h1 := HLN.out; have h2 := HS2.out.1; have h3 := HTK.out.1.ln.1; omega)
              clear hb hans ho hsg2 hsl2 HKi b0 b1 b2
              obtain ⟨b0, b1, b2⟩ := HKj.out.box3 (q := q22) (a := .int .i64 mk) (b := .slice (some ⟨gk, 0, none⟩) ss.length ck) (e := .slice (some ⟨jk, 0, none⟩) ss.length dk) (t := 25) (by simp)
              go_wp2_with fail
              refine (Saddles_any (B := we.heap.size) (wd := mk) (Nat.le_refl _) (HKj.out.rsH (v := .slice (some ⟨gk, 0, none⟩) ss.length ck) (hs := Hk) (.tail _ HR.out.1)) (HKj.out.rsI (v := .slice (some ⟨jk, 0, none⟩) ss.length dk) (l := Qk) (.tail _ HR.out.2))).mono ?_
              rintro e wf ⟨v27, xb, yb, erb, LB, rfl, hb, hans, ho, hn0, hn1⟩
              obtain ⟨h1, h2, h3⟩ := HTK.out.1.sad _ _ _ _ _ _ HSD.out hans
              obtain rfl := h1.symm
              obtain rfl := h2.symm
              obtain rfl := h3.symm
              have HKk := Lib.hid ((HKj.out.grow hb).addR (r := rwN v27 LB) HKj.out.o.2.2 ho)
              obtain ⟨a27, c27, rfl⟩ : ∃ a cap, v27 = .slice a LB.length cap := row_form (r := rwN v27 LB) ho
              have HCB : Hid (CanList mk Hk Qk y er LB) := Lib.hid ⟨hn0, hn1⟩
              have HCN := Lib.hid (HTK.out.1.can y er LA LB HCA.out HCB.out)
              clear hb hans ho hn0 hn1 HKj b0 b1 b2 h1 h2 h3
              have hne : (er != er) = false := by simp
              have hl1 : ((slk.length : Nat) : Int) = ((sl.length : Nat) : Int) := by rw [HS2.out.2.1]
              have hl2 : ((LB.length : Nat) : Int) = ((LA.length : Nat) : Int) := by rw [HCN.out.1]
              obtain ⟨e0, e1⟩ := HKk.out.box2 (q := q23) (a := .int .i64 x) (b := .int .i64 y) (t := 54) (by simp)
              obtain ⟨f0, f1⟩ := HKk.out.box2 (q := q15) (a := .int .i64 x) (b := .int .i64 y) (t := 54) (by simp)
              go_wp2_with fail
              clear hne hl1 hl2 e0 e1 f0 f1
              go_loopw [233] (fun i W => ∃ j : Nat, j ≤ sl.length ∧ i = .int .i64 j ∧ Hid (Kept w S w.heap.size c' [rwN (.slice a27 LB.length c27) LB, rwS (.slice (some ⟨a25, 0, none⟩) slk.length c25) slk, rwN (.slice a19 LA.length c19) LA, rwS (.slice (some ⟨a17, 0, none⟩) sl.length c17) sl, rwI (.slice (some ⟨pM, 0, none⟩) ss.length ss.length) Mm, rwI (.slice (some ⟨pP, 0, none⟩) ss.length ss.length) Pp, rwI (.slice (some ⟨sB, 0, none⟩) ss.length cB) Bs, rwH (.slice (some ⟨hB, 0, none⟩) ss.length kB) Bh, rwI (.slice (some ⟨sT, 0, none⟩) ss.length cT) Ts, rwH (.slice (some ⟨hT, 0, none⟩) ss.length kT) Th, rwI (.slice (some ⟨sO, 0, none⟩) ss.length cO) O, rwH (.slice (some ⟨hO, 0, none⟩) ss.length kO) hs, rwI (.slice (some ⟨ta, 0, none⟩) T.length tcap) T, rwI (.slice (some ⟨sa, 0, none⟩) ss.length scap) ss, rwH (.slice (some ⟨ha, 0, none⟩) hs.length hcap) hs] [(q23, Obj.cells #[.int .i64 x, .int .i64 y] 54 (0, 0)), (q22, Obj.cells #[.int .i64 mk, .slice (some ⟨gk, 0, none⟩) ss.length ck, .slice (some ⟨jk, 0, none⟩) ss.length dk] 25 (0, 0)), (q20, Obj.cells #[.int .i64 m, .slice (some ⟨hO, 0, none⟩) ss.length kO, .slice (some ⟨sO, 0, none⟩) ss.length cO, .int .i64 rows, .slice (some ⟨hT, 0, none⟩) ss.length kT, .slice (some ⟨sT, 0, none⟩) ss.length cT, .int .i64 m, .slice (some ⟨hB, 0, none⟩) ss.length kB, .slice (some ⟨sB, 0, none⟩) ss.length cB] 25 (0, 0)), (q15, Obj.cells #[.int .i64 x, .int .i64 y] 54 (0, 0)), (p8, Obj.cells #[.int .i64 m, .slice (some ⟨hB, 0, none⟩) ss.length kB, .slice (some ⟨sB, 0, none⟩) ss.length cB] 25 (0, 0)), (p7, Obj.cells #[.int .i64 rows, .slice (some ⟨hT, 0, none⟩) ss.length kT, .slice (some ⟨sT, 0, none⟩) ss.length cT] 25 (0, 0)), (p6, Obj.cells #[.int .i64 m, .slice (some ⟨hO, 0, none⟩) ss.length kO, .slice (some ⟨sO, 0, none⟩) ss.length cO] 25 (0, 0)), (q, Obj.cells #[.int .i64 m, .slice (some ⟨ha, 0, none⟩) hs.length hcap, .slice (some ⟨sa, 0, none⟩) ss.length scap] 25 (0, 0))] W)) (fun i _ => sl.length - (intOf i).toNat)
              case atStart => exact ⟨0, Nat.zero_le _, rfl, HKk⟩
              case round =>
                clear HKk
                obtain ⟨j, hj, rfl, HK⟩ := hrel
                by_cases hlj : j < sl.length
                · have hjs : j < ss.length := by have := HSG.out.2; omega
                  obtain ⟨⟨x1, x2, x3⟩, hx⟩ : ∃ t, t = sl.getD j (false, false, false) := ⟨_, rfl⟩
                  obtain ⟨p1, p2, p3⟩ := HK.out.cellS (g := a17) (cap := c17) (l := sl) (by simp) hlj
                  rw [← hx] at p1 p2 p3
                  dsimp only at p1 p2 p3
                  obtain ⟨fj, hfj⟩ : ∃ fj, fj = fk j := ⟨_, rfl⟩
                  have hfl : fj < slk.length := by rw [hfj]; have h1 := HTK.out.1.lt j hjs; have h2 := HS2.out.1; have h3 := HTK.out.1.ln.1; omega
                  have HFS : Hid (slk.getD fj (false, false, false) = if sw = true then (x2, x1, x3) else (x1, x2, x3)) := Lib.hid (by
                    have h := HS2.out.2.2 j hjs
                    rw [← hfj, ← hx] at h
                    exact h)
                  obtain ⟨z, hz⟩ : ∃ z, decide ((j : Int) ∈ LA.map Int.ofNat) = z := ⟨_, rfl⟩
                  have hz2 : decide ((fj : Int) ∈ LB.map Int.ofNat) = z := by
                    rw [← hz, hfj]
                    have h := HCN.out.2 j hjs
                    rw [Bool.eq_iff_iff, decide_eq_true_eq, decide_eq_true_eq, List.mem_map, List.mem_map]
                    constructor
                    · rintro ⟨a, ha, e⟩
                      have : a = fk j := by have : (a : Int) = (fk j : Nat) := e; omega
                      subst this
                      exact ⟨j, h.1 ha, rfl⟩
                    · rintro ⟨a, ha, e⟩
                      have : a = j := by have : (a : Int) = (j : Nat) := e; omega
                      subst this
                      exact ⟨_, h.2 ha, rfl⟩
                  have HZ := Lib.hid (And.intro hz hz2)
                  have HFJ := Lib.hid hfj
                  have hj1 : (j : Int) < (sl.length : Int) := by omega
                  have hj2 : (j : Int) < 1000 := by have h1 := HSG.out.2; have h2 := HLN.out; omega
                  have hf1 : (fj : Int) < (slk.length : Int) := by omega
                  have hf2 : (fj : Int) < 1000 := by have h1 := HS2.out.1; have h2 := HTK.out.1.ln.1; have h3 := HLN.out; omega
                  have hj3 : (j : Int) < (ss.length : Int) := by omega
                  have HLB : Hid ((LA.map Int.ofNat).length ≤ 100000 ∧ (LB.map Int.ofNat).length ≤ 100000) := Lib.hid (by have h1 := HCA.out.len; have h2 := HCB.out.len; have h3 := HTK.out.1.ln.1; have h4 := HLN.out; rw [List.length_map, List.length_map]; omega)
                  clear hx hfj hz hz2 hfl
                  go_upto_region 32 with (fail)
                  clear p1 p2 p3
                  have HGx := Lib.hid (And.intro ((Below.refl _ wr).alloc (Nat.le_refl _) (.cells #[.bool x1, .bool x2, .bool x3] 41)) (heap_alloc_new wr (.cells #[.bool x1, .bool x2, .bool x3] 41)))
                  obtain ⟨q30, hqe⟩ : ∃ q, q = wr.heap.size := ⟨_, rfl⟩
                  simp only [← hqe] at HGx ⊢
                  have HQE := Lib.hid hqe
                  generalize wr.alloc (.cells #[.bool x1, .bool x2, .bool x3] 41) = wh at HGx ⊢
                  clear hqe
                  have hk3' : k = 0 ∨ k = 1 ∨ k = 2 := by omega
                  rcases hk3' with hke | hke | hke
                  · obtain ⟨hke1, hke2⟩ := HTK.out.2.1 hke
                    have z0 : ((k : Int) == 0) = true := by rw [beq_iff_eq]; omega
                    have z0' : (k : Int) = 0 := by omega
                    have HKE := Lib.hid hke
                    have hfe : fj = j := by rw [HFJ.out, hke1]; rfl
                    subst hfe
                    have HW : Hid (slk.getD fj (false, false, false) = (x2, x1, x3)) := Lib.hid (by have h := HFS.out; rw [hke2] at h; exact h)
                    clear hke hke1 hke2 z0'
                    obtain ⟨⟨b0, b1, b2⟩, g0, g1, g2⟩ := cell_of_heap HGx.out.2
                    have HKx := Lib.hid (HK.out.over (by rw [← HQE.out]; exact HGx.out.1) (Nat.le_of_eq HQE.out.symm) HGx.out.2 (.bool x2) (.bool x1))
                    go_wp2_with fail
                    clear b0 b1 b2 g0 g1 g2 z0
                    generalize (wh.setCell ⟨q30, 0, none⟩ (.bool x2)).setCell ⟨q30, 1, none⟩ (.bool x1) = wi at HKx ⊢
                    have hfl : fj < slk.length := by omega
                    obtain ⟨n0, n1, n2⟩ := HKx.out.cellS (g := a25) (cap := c25) (l := slk) (by simp) hfl
                    rw [HW.out] at n0 n1 n2
                    dsimp only at n0 n1 n2
                    obtain ⟨b0, b1, b2⟩ := HKx.out.box3 (q := q30) (a := .bool x2) (b := .bool x1) (e := .bool x3) (t := 41) (by simp)
                    clear hfl
                    go_quiet ((go_at_call 29; first | exact contains_quiet _ HZ.out.1 HLB.out.1 (HKx.out.rsN (v := .slice a19 LA.length c19) (l := LA) (by simp)) | exact contains_quiet _ HZ.out.2 HLB.out.2 (HKx.out.rsN (v := .slice a27 LB.length c27) (l := LB) (by simp))))
                    clear n0 n1 n2 b0 b1 b2
                    have HKy := Lib.hid (HKx.out.grow (below_drewN (Below.refl wi.heap.size wi) nq))
                    generalize wi.drewN nq = wj at HKy ⊢
                    go_wp2
                    go_roundw
                    case rel => exact ⟨fj + 1, by omega, by go_num, Lib.hid (HKy.out.less (fun r h => h) (fun p h => .tail _ h))⟩
                    case measure => simp [intOf]; omega
                  · obtain ⟨hke1, hke2⟩ := HTK.out.2.2.1 hke
                    have z0 : ((k : Int) == 0) = false := by rw [beq_eq_false_iff_ne]; omega
                    have z1 : ((k : Int) == 1) = true := by rw [beq_iff_eq]; omega
                    have HW : Hid (slk.getD fj (false, false, false) = (x1, x2, x3)) := Lib.hid (by have h := HFS.out; rw [hke2] at h; exact h)
                    have HKx := Lib.hid ((HK.out.grow (by rw [← HQE.out]; exact HGx.out.1)).addX (p := q30) (by have := HK.out.o.2.2; have := HQE.out; omega) HGx.out.2)
                    have c31 := HKx.out.cellI' (g := pP) (n := ss.length) (cap := ss.length) (l := Pp) (by simp) (j := j) (by have := HPM.out.1.1; omega)
                    rw [HPM.out.2.1 j hjs, ← hke1, ← HFJ.out] at c31
                    have HKE := Lib.hid hke
                    clear hke hke1 hke2
                    go_wp2_with fail
                    clear c31 z0 z1
                    generalize wh = wi at HKx ⊢
                    have hfl : fj < slk.length := by omega
                    obtain ⟨n0, n1, n2⟩ := HKx.out.cellS (g := a25) (cap := c25) (l := slk) (by simp) hfl
                    rw [HW.out] at n0 n1 n2
                    dsimp only at n0 n1 n2
                    obtain ⟨b0, b1, b2⟩ := HKx.out.box3 (q := q30) (a := .bool x1) (b := .bool x2) (e := .bool x3) (t := 41) (by simp)
                    clear hfl
                    go_quiet ((go_at_call 29; first | exact contains_quiet _ HZ.out.1 HLB.out.1 (HKx.out.rsN (v := .slice a19 LA.length c19) (l := LA) (by simp)) | exact contains_quiet _ HZ.out.2 HLB.out.2 (HKx.out.rsN (v := .slice a27 LB.length c27) (l := LB) (by simp))))
                    clear n0 n1 n2 b0 b1 b2
                    have HKy := Lib.hid (HKx.out.grow (below_drewN (Below.refl wi.heap.size wi) nq))
                    generalize wi.drewN nq = wj at HKy ⊢
                    go_wp2
                    go_roundw
                    case rel => exact ⟨j + 1, by omega, by go_num, Lib.hid (HKy.out.less (fun r h => h) (fun p h => .tail _ h))⟩
                    case measure => simp [intOf]; omega
                  · obtain ⟨hke1, hke2⟩ := HTK.out.2.2.2 hke
                    have z0 : ((k : Int) == 0) = false := by rw [beq_eq_false_iff_ne]; omega
                    have z1 : ((k : Int) == 1) = false := by rw [beq_eq_false_iff_ne]; omega
                    have HW : Hid (slk.getD fj (false, false, false) = (x1, x2, x3)) := Lib.hid (by have h := HFS.out; rw [hke2] at h; exact h)
                    have HKx := Lib.hid ((HK.out.grow (by rw [← HQE.out]; exact HGx.out.1)).addX (p := q30) (by have := HK.out.o.2.2; have := HQE.out; omega) HGx.out.2)
                    have c31 := HKx.out.cellI' (g := pM) (n := ss.length) (cap := ss.length) (l := Mm) (by simp) (j := j) (by have := HPM.out.1.2; omega)
                    rw [HPM.out.2.2 j hjs, ← hke1, ← HFJ.out] at c31
                    have HKE := Lib.hid hke
                    clear hke hke1 hke2
                    go_wp2_with fail
                    clear c31 z0 z1
                    generalize wh = wi at HKx ⊢
                    have hfl : fj < slk.length := by omega
                    obtain ⟨n0, n1, n2⟩ := HKx.out.cellS (g := a25) (cap := c25) (l := slk) (by simp) hfl
                    rw [HW.out] at n0 n1 n2
                    dsimp only at n0 n1 n2
                    obtain ⟨b0, b1, b2⟩ := HKx.out.box3 (q := q30) (a := .bool x1) (b := .bool x2) (e := .bool x3) (t := 41) (by simp)
                    clear hfl
                    go_quiet ((go_at_call 29; first | exact contains_quiet _ HZ.out.1 HLB.out.1 (HKx.out.rsN (v := .slice a19 LA.length c19) (l := LA) (by simp)) | exact contains_quiet _ HZ.out.2 HLB.out.2 (HKx.out.rsN (v := .slice a27 LB.length c27) (l := LB) (by simp))))
                    clear n0 n1 n2 b0 b1 b2
                    have HKy := Lib.hid (HKx.out.grow (below_drewN (Below.refl wi.heap.size wi) nq))
                    generalize wi.drewN nq = wj at HKy ⊢
                    go_wp2
                    go_roundw
                    case rel => exact ⟨j + 1, by omega, by go_num, Lib.hid (HKy.out.less (fun r h => h) (fun p h => .tail _ h))⟩
                    case measure => simp [intOf]; omega
                · have hjl : j = sl.length := by omega
                  subst hjl
                  go_wp2
                  go_roundw
                  case rel => exact ⟨k + 1, by omega, by go_num, Lib.hid (HK.out.less (fun r h => .tail _ (.tail _ h)) (fun p h => .tail _ (.tail _ h)))⟩
                  case measure => simp [intOf]; omega
            · have hk3 : k = 3 := by omega
              have hk4 : ¬ ((k : Int) < 3) := by omega
              clear hk3 hlt hk
              go_wp2_with fail
              refine (awake_any _).mono ?_
              rintro e wz ⟨rfl, hb⟩
              have HB := Lib.hid (HK.out.b.trans (hb.mono HK.out.b.size))
              clear hb
              go_wp2
              go_ret
              exact ⟨rfl, HB.out⟩
end Go.Proofs.Ytdgibmgifgdpbaa
