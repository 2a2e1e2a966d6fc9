/-
  Parts of the proof, in the order in which they build: PoSeen.
-/
import Derived.Deep.CutRange
import Derived.BigQuiet
import Derived.Maps.AppendAt
import Derived.Test.YtobmhamdkngehaaA54
import Derived.Test.YtobmhamdkngehaaA44
import Derived.Test.YtobmhamdkngehaaA45
import Derived.Test.YtobmhamdkngehaaA20
set_option linter.unusedVariables false
set_option linter.unusedSimpArgs false
namespace Go.Proofs.Ytobmhamdkngehaa
open Go.RowKit Go.Shelf
open Lim

set_option maxRecDepth 20000 in
set_option maxHeartbeats 8000000 in
theorem pseen_any {B : Nat} {nv tv0 : Value} {ns ts : List Int} {w : World} (hB : B ≤ w.heap.size) (hn : RS B w nv ns.length (u8s ns)) (hnu : ∀ x ∈ ns, 0 ≤ x ∧ x ≤ 255) (ht : RS B w tv0 ts.length (u8s ts)) (htu : ∀ x ∈ ts, 0 ≤ x ∧ x ≤ 255) :
    Calls Try.prog 13 #[nv, tv0] w fun e w' => e = .returned (.bool true) ∧ Below w.heap.size w w' := by
  have HA := Lib.hid (And.intro hB (And.intro hn (And.intro hnu (And.intro ht htu))))
  obtain ⟨na, nc, rfl, -⟩ := hn
  obtain ⟨ua, uc, rfl, -⟩ := ht
  clear hB hnu htu
  go_enter Try.func13, Try.ntmps13
  go_wp2_with fail
  refine (of_dk HA.out.1 HA.out.2.1 HA.out.2.2.1).mono ?_
  rintro e w1 ⟨rfl, hd0, hb1, hs1⟩
  have HD0 := Lib.hid (And.intro hd0 (And.intro hb1 hs1))
  clear hd0 hb1 hs1
  go_wp2_with fail
  refine (of_dk (B := B) (by have h1 := HA.out.1; have h2 := HD0.out.2.1.size; omega) (HA.out.2.2.2.1.below (HD0.out.2.1.mono HA.out.1)) HA.out.2.2.2.2).mono ?_
  rintro e w2 ⟨rfl, hd1, hb2, hs2⟩
  have HD1 := Lib.hid (And.intro hd1 (And.intro hb2 hs2))
  clear hd1 hb2 hs2
  go_wp2_with fail
  refine (pmade_any (M := 12) (d := w.heap.size) (c0 := 0) ((HD0.out.1.below HD1.out.2.1).deck (n := 0) (by omega)) (by omega) (by omega)).mono ?_
  rintro e w3 ⟨av, gv, tv, p, T, c', rfl, hM, -, -, hgr, o1, o2, o3⟩
  have HM := Lib.hid hM
  have HOK : Hid p.Ok := Lib.hid (hM.ok (by omega))
  have HLN := Lib.hid hM.lens
  have HK0 := Lib.hid (Mem.start2 HA.out.1 HA.out.2.2.2.1 HD0.out.2.1 HD0.out.2.2 HD1.out.1 HD1.out.2.1 HD1.out.2.2 (Int.le_refl _) hgr o1 o2 o3)
  obtain ⟨d1, hd1e⟩ : ∃ d1, d1 = w1.heap.size := ⟨_, rfl⟩
  obtain ⟨S, hSe⟩ : ∃ S, S = w2.heap.size := ⟨_, rfl⟩
  rw [← hd1e, ← hSe] at HK0
  obtain ⟨ha, hc, rfl⟩ : ∃ g cap, av = .slice (some ⟨g, 0, none⟩) p.ats.length cap := form_pos (r := rwI av p.ats.length p.ats) o1 (show 0 < p.ats.length by have := HLN.out; omega)
  obtain ⟨ga, gc, rfl⟩ : ∃ g cap, gv = .slice (some ⟨g, 0, none⟩) p.gr.length cap := form_pos (r := rwS gv p.gr.length p.gr) o2 (show 0 < p.gr.length by have := HLN.out; omega)
  obtain ⟨ta, tc, rfl⟩ : ∃ g cap, tv = .slice (some ⟨g, 0, none⟩) T.length cap := form_pos (r := rwI tv T.length T) o3 (show 0 < T.length by have := HLN.out; omega)
  simp only [← hd1e]
  clear hM hgr o1 o2 o3 hd1e hSe HD0 HD1 HA
  go_wp2_with fail
  have HK1 := Lib.hid (HK0.out.lay (.cells #[.slice (some ⟨ha, 0, none⟩) p.ats.length hc, .slice (some ⟨ga, 0, none⟩) p.gr.length gc, .int .i64 p.tall, .int .i64 p.lo, .int .i64 p.hi] 27))
  obtain ⟨q, hqe⟩ : ∃ q, q = w3.heap.size := ⟨_, rfl⟩
  simp only [← hqe] at HK1 ⊢
  generalize w3.alloc (.cells #[.slice (some ⟨ha, 0, none⟩) p.ats.length hc, .slice (some ⟨ga, 0, none⟩) p.gr.length gc, .int .i64 p.tall, .int .i64 p.lo, .int .i64 p.hi] 27) = w4 at HK1 ⊢
  clear HK0 hqe
  obtain ⟨b0, b1, b2, b3, b4⟩ := HK1.out.box5 (q := q) (a := .slice (some ⟨ha, 0, none⟩) p.ats.length hc) (b := .slice (some ⟨ga, 0, none⟩) p.gr.length gc) (e := .int .i64 p.tall) (f := .int .i64 p.lo) (g := .int .i64 p.hi) (t := 27) (by simp)
  obtain ⟨i0, hi, hz0, hz1, hz2⟩ := info_parts Try.infoInt
  have HI := Lib.hid (And.intro hi (And.intro hz0 (And.intro hz1 hz2)))
  clear hi hz0 hz1 hz2
  go_wp2_with fail
  refine (Fewest_any (p := p) (B := w4.heap.size) (Nat.le_refl _) (HK1.out.rsI (v := .slice (some ⟨ha, 0, none⟩) p.ats.length hc) (n := p.ats.length) (l := p.ats) (.inl (by simp)) rfl) (HK1.out.rsS (v := .slice (some ⟨ga, 0, none⟩) p.gr.length gc) (n := p.gr.length) (l := p.gr) (.inl (by simp)) rfl)).mono ?_
  rintro e w5 ⟨hb, h⟩
  obtain ⟨lv, L, rfl, ho, hL, -⟩ : ∃ v L, e = .returned (.tuple #[v, .int .i64 0]) ∧ w5.ownsRow w4.heap.size 3 1 v L.length (ints (L.map Int.ofNat)) ∧ IsBest p.n p.sure (-1) (p.n - 1) 0 L ∧ L.length ≤ 45 := by
    rcases h with ⟨h, -⟩ | ⟨-, h⟩
    · exact absurd HOK.out.err h
    · exact h
  have HL := Lib.hid (And.intro hL (best_len HOK.out hL))
  have HK2 := Lib.hid (HK1.out.addR hb (r := rwI lv L.length (L.map Int.ofNat)) ho)
  obtain ⟨lg, lgc, rfl⟩ : ∃ g cap, lv = .slice (some ⟨g, 0, none⟩) L.length cap := form_pos (r := rwI lv L.length (L.map Int.ofNat)) ho (show 0 < L.length by have := HL.out; omega)
  clear h hb ho hL HK1 b0 b1 b2 b3 b4
  obtain ⟨b0, b1, b2, b3, b4⟩ := HK2.out.box5 (q := q) (a := .slice (some ⟨ha, 0, none⟩) p.ats.length hc) (b := .slice (some ⟨ga, 0, none⟩) p.gr.length gc) (e := .int .i64 p.tall) (f := .int .i64 p.lo) (g := .int .i64 p.hi) (t := 27) (by simp)
  go_wp2_with fail
  refine (Holds_any (p := p) (xs := L.map Int.ofNat) (B := w5.heap.size) (Nat.le_refl _) (HK2.out.rsI (v := .slice (some ⟨ha, 0, none⟩) p.ats.length hc) (n := p.ats.length) (l := p.ats) (.inl (by simp)) rfl) (HK2.out.rsS (v := .slice (some ⟨ga, 0, none⟩) p.gr.length gc) (n := p.gr.length) (l := p.gr) (.inl (by simp)) rfl) (HK2.out.rsI (v := .slice (some ⟨lg, 0, none⟩) L.length lgc) (n := L.length) (.inl List.mem_cons_self) (by simp)) (by rw [List.length_map]; have := HL.out; omega)).mono ?_
  rintro e w6 ⟨rfl, hb⟩
  have HK3 := Lib.hid (HK2.out.grow hb)
  rw [holds_ok HOK.out (ch_holds HOK.out HL.out.1.ch).1, (ch_holds HOK.out HL.out.1.ch).2]
  clear hb HK2 b0 b1 b2 b3 b4
  obtain ⟨b0, b1, b2, b3, b4⟩ := HK3.out.box5 (q := q) (a := .slice (some ⟨ha, 0, none⟩) p.ats.length hc) (b := .slice (some ⟨ga, 0, none⟩) p.gr.length gc) (e := .int .i64 p.tall) (f := .int .i64 p.lo) (g := .int .i64 p.hi) (t := 27) (by simp)
  go_wp2_with fail
  refine (Levels_any (p := p) (B := w6.heap.size) (Nat.le_refl _) (HK3.out.rsI (v := .slice (some ⟨ha, 0, none⟩) p.ats.length hc) (n := p.ats.length) (l := p.ats) (.inl (by simp)) rfl) (HK3.out.rsS (v := .slice (some ⟨ga, 0, none⟩) p.gr.length gc) (n := p.gr.length) (l := p.gr) (.inl (by simp)) rfl)).mono ?_
  rintro e w7 ⟨hb, h⟩
  obtain ⟨vv, l, rfl, ho, hl⟩ : ∃ v l, e = .returned (.tuple #[v, .int .i64 0]) ∧ w7.ownsRow w6.heap.size 3 1 v p.n (ints l) ∧ LevTo p.n p.sure p.n l := by
    rcases h with ⟨h, -⟩ | ⟨-, h⟩
    · exact absurd HOK.out.err h
    · exact h
  have HLV := Lib.hid hl
  have HK4 := Lib.hid (HK3.out.addR hb (r := rwI vv p.n l) ho)
  obtain ⟨vg, vgc, rfl⟩ : ∃ g cap, vv = .slice (some ⟨g, 0, none⟩) p.n cap := form_pos (r := rwI vv p.n l) ho (show 0 < p.n by have := HLN.out; omega)
  clear h hb ho hl HK3 b0 b1 b2 b3 b4
  obtain ⟨b0, b1, b2, b3, b4⟩ := HK4.out.box5 (q := q) (a := .slice (some ⟨ha, 0, none⟩) p.ats.length hc) (b := .slice (some ⟨ga, 0, none⟩) p.gr.length gc) (e := .int .i64 p.tall) (f := .int .i64 p.lo) (g := .int .i64 p.hi) (t := 27) (by simp)
  go_wp2_with fail
  have hvl : (.slice (some ⟨vg, 0, none⟩) p.n vgc : Value) = .slice (some ⟨vg, 0, none⟩) l.length vgc := by rw [HLV.out.len]
  refine (Proves_any (p := p) (l := l) (B := w7.heap.size) (Nat.le_refl _) (HK4.out.rsI (v := .slice (some ⟨ha, 0, none⟩) p.ats.length hc) (n := p.ats.length) (l := p.ats) (.inl (by simp)) rfl) (HK4.out.rsS (v := .slice (some ⟨ga, 0, none⟩) p.gr.length gc) (n := p.gr.length) (l := p.gr) (.inl (by simp)) rfl) (HK4.out.rsI (v := .slice (some ⟨vg, 0, none⟩) p.n vgc) (n := p.n) (l := l) (.inl List.mem_cons_self) HLV.out.len) (by rw [HLV.out.len]; have := HLN.out; omega)).mono ?_
  rintro e w8 h
  obtain ⟨rfl, hb⟩ := prov_lev HOK.out HLV.out HL.out.1 h
  have HK5 := Lib.hid (HK4.out.grow hb)
  clear h hb hvl HK4 b0 b1 b2 b3 b4
  have dl : (L.length != L.length) = false := by simp
  have dl2 : ((L.length : Int) != (L.length : Int)) = false := by simp
  have d2 : decide (L.length < 2) = false := by rw [decide_eq_false_iff_not]; have := HL.out; omega
  have d3 : decide ((L.length : Int) < 2) = false := by rw [decide_eq_false_iff_not]; have := HL.out; omega
  go_wp2_with fail
  clear dl dl2 d2 d3
  go_loopw [88] (fun i W => ∃ k c : Nat, k ≤ 5 ∧ i = .int .i64 k ∧ Hid (c ≤ 50 * k) ∧ Hid (Mem w S d1 c (rwI (.slice (some ⟨vg, 0, none⟩) p.n vgc) p.n l :: rwI (.slice (some ⟨lg, 0, none⟩) L.length lgc) L.length (L.map Int.ofNat) :: [rwI (.slice (some ⟨ha, 0, none⟩) p.ats.length hc) p.ats.length p.ats, rwS (.slice (some ⟨ga, 0, none⟩) p.gr.length gc) p.gr.length p.gr, rwI (.slice (some ⟨ta, 0, none⟩) T.length tc) T.length T]) [] [(q, Obj.cells #[.slice (some ⟨ha, 0, none⟩) p.ats.length hc, .slice (some ⟨ga, 0, none⟩) p.gr.length gc, .int .i64 p.tall, .int .i64 p.lo, .int .i64 p.hi] 27 (0, 0))] W)) (fun i _ => 5 - (intOf i).toNat)
  case atStart => exact ⟨0, 0, by omega, rfl, Lib.hid (Nat.le_refl _), HK5⟩
  case round =>
    as_aux_lemma =>
      clear HK5
      obtain ⟨k, c, hk, rfl, HC, HK⟩ := hrel
      by_cases hlt : k < 5
      · have hk5 : (k : Int) < 5 := by omega
        obtain ⟨b0, b1, b2, b3, b4⟩ := HK.out.box5 (q := q) (a := .slice (some ⟨ha, 0, none⟩) p.ats.length hc) (b := .slice (some ⟨ga, 0, none⟩) p.gr.length gc) (e := .int .i64 p.tall) (f := .int .i64 p.lo) (g := .int .i64 p.hi) (t := 27) (by simp)
        go_upto_region 12 with (fail)
        go_quiet (fail)
        have HKa := Lib.hid (HK.out.drewN nq)
        clear HK b0 b1 b2 b3 b4
        generalize wr.drewN nq = wq at HKa ⊢
        obtain ⟨b0, b1, b2, b3, b4⟩ := HKa.out.box5 (q := q) (a := .slice (some ⟨ha, 0, none⟩) p.ats.length hc) (b := .slice (some ⟨ga, 0, none⟩) p.gr.length gc) (e := .int .i64 p.tall) (f := .int .i64 p.lo) (g := .int .i64 p.hi) (t := 27) (by simp)
        go_upto_if 96 with (fail)
        go_cut [18, 19] from 96 to 102 (fun s18 s19 wx => ∃ (ta2 c18 c1 : Nat) (T1 : List Int) (bd : Int), s18 = .slice (some ⟨ta2, 0, none⟩) T1.length c18 ∧ s19 = .int .i64 bd ∧ Hid (TruB p T1 bd) ∧ Hid (c1 ≤ 50 * (k + 1)) ∧ Hid (Mem w S d1 c1 (rwI (.slice (some ⟨ta2, 0, none⟩) T1.length c18) T1.length T1 :: (rwI (.slice (some ⟨vg, 0, none⟩) p.n vgc) p.n l :: rwI (.slice (some ⟨lg, 0, none⟩) L.length lgc) L.length (L.map Int.ofNat) :: [rwI (.slice (some ⟨ha, 0, none⟩) p.ats.length hc) p.ats.length p.ats, rwS (.slice (some ⟨ga, 0, none⟩) p.gr.length gc) p.gr.length p.gr, rwI (.slice (some ⟨ta, 0, none⟩) T.length tc) T.length T])) [] [(q, Obj.cells #[.slice (some ⟨ha, 0, none⟩) p.ats.length hc, .slice (some ⟨ga, 0, none⟩) p.gr.length gc, .int .i64 p.tall, .int .i64 p.lo, .int .i64 p.hi] 27 (0, 0))] wx))
        case first =>
          as_aux_lemma =>
            by_cases hk0 : k = 0
            · subst hk0
              go_wp2
              go_meet
              case rel => exact ⟨ta, tc, c, T, p.hi, rfl, rfl, Lib.hid (HM.out.tru ⟨HM.out.bd.2.1, Int.le_refl _⟩), Lib.hid (by have := HC.out; omega), Lib.hid (HKa.out.less (fun r hr => by
                  rcases List.mem_cons.1 hr with rfl | hr
                  · simp
                  · exact hr) (List.Sublist.refl _) (List.Sublist.refl _))⟩
            · have d0 : 0 < k := by omega
              have d1' : decide (0 < k) = true := by rw [decide_eq_true_eq]; exact d0
              clear hk0
              go_wp2_with fail
              refine (drawn_any (S := S) HOK.out HKa.out.dk (by have := HC.out; omega) ⟨HKa.out.o.2.1, HKa.out.o.2.2⟩ (HKa.out.r (rwS (.slice (some ⟨ga, 0, none⟩) p.gr.length gc) p.gr.length p.gr) (by simp)) rfl).mono ?_
              rintro e w10 ⟨tv2, T2, bd, c2, rfl, hT2, ho, hdk, hc2, hgr⟩
              have HKb := Lib.hid (HKa.out.drawR hgr hdk (r := rwI tv2 T2.length T2) ho)
              have HT2 := Lib.hid (And.intro hT2 hc2)
              obtain ⟨a2, c2', rfl⟩ : ∃ g cap, tv2 = .slice (some ⟨g, 0, none⟩) T2.length cap := form_pos (r := rwI tv2 T2.length T2) ho (show 0 < T2.length by have := hT2.len; have := HLN.out; omega)
              clear hgr hdk ho hT2 hc2 HKa b0 b1 b2 b3 b4
              go_wp2
              go_meet
              case rel => exact ⟨a2, c2', c2, T2, bd, rfl, rfl, Lib.hid HT2.out.1, Lib.hid (by have h1 := HT2.out.2; have h2 := HC.out; have h3 := HLN.out; omega), HKb⟩
        case rest =>
          as_aux_lemma =>
            obtain ⟨ta2, c18, c1, T1, bd, rfl, rfl, HT1, HC1, HKb⟩ := hcut
            clear HKa b0 b1 b2 b3 b4
            go_wp2_with fail
            go_loopw [20] (fun v W => ∃ j : Nat, 1 ≤ j ∧ j ≤ L.length ∧ v = .int .i64 j ∧ Hid (Mem w S d1 c1 (rwI (.slice (some ⟨ta2, 0, none⟩) T1.length c18) T1.length T1 :: (rwI (.slice (some ⟨vg, 0, none⟩) p.n vgc) p.n l :: rwI (.slice (some ⟨lg, 0, none⟩) L.length lgc) L.length (L.map Int.ofNat) :: [rwI (.slice (some ⟨ha, 0, none⟩) p.ats.length hc) p.ats.length p.ats, rwS (.slice (some ⟨ga, 0, none⟩) p.gr.length gc) p.gr.length p.gr, rwI (.slice (some ⟨ta, 0, none⟩) T.length tc) T.length T])) [] [(q, Obj.cells #[.slice (some ⟨ha, 0, none⟩) p.ats.length hc, .slice (some ⟨ga, 0, none⟩) p.gr.length gc, .int .i64 p.tall, .int .i64 p.lo, .int .i64 p.hi] 27 (0, 0))] W)) (fun v _ => L.length - (intOf v).toNat)
            case atStart => exact ⟨1, Nat.le_refl _, by have := HL.out; omega, rfl, HKb⟩
            case round =>
              as_aux_lemma =>
                clear HKb
                obtain ⟨j, hj1, hj, rfl, HK⟩ := hrel
                by_cases hlj : j < L.length
                · obtain ⟨j1, rfl⟩ : ∃ j1, j = j1 + 1 := ⟨j - 1, by omega⟩
                  obtain ⟨xa, hxa⟩ : ∃ x, x = L.getD j1 0 := ⟨_, rfl⟩
                  obtain ⟨xb, hxb⟩ : ∃ x, x = L.getD (j1 + 1) 0 := ⟨_, rfl⟩
                  have HX : Hid (xa < xb ∧ xb < p.n ∧ p.sure xa xb = true) := Lib.hid (by rw [hxa, hxb]; exact HL.out.1.ch.at.2.2 j1 hlj)
                  have q0 := HK.out.cellI (g := lg) (n := L.length) (cap := lgc) (l := L.map Int.ofNat) (.inl (by simp)) (j := j1) (by rw [List.length_map]; omega)
                  have q1 := HK.out.cellI (g := lg) (n := L.length) (cap := lgc) (l := L.map Int.ofNat) (.inl (by simp)) (j := j1 + 1) (by rw [List.length_map]; omega)
                  rw [getD_map, ← hxa] at q0
                  rw [getD_map, ← hxb] at q1
                  obtain ⟨jj, hjj⟩ : ∃ jj, jj = j1 + 1 := ⟨_, rfl⟩
                  have HJ := Lib.hid hjj
                  rw [← hjj] at q1 hlj hj1 hj ⊢
                  have ew : IntKind.i64.wrap ((jj : Int) - 1) = (j1 : Int) := by rw [IntWalk.i64_in _ (by have := HL.out; omega)]; omega
                  have hb1 : (j1 : Int) < (L.length : Int) := by omega
                  have hb2 : (jj : Int) < (L.length : Int) := by omega
                  have hjL : jj < 45 := by have := HL.out; omega
                  clear hjj hxa hxb
                  go_upto_region 18 with (fail)
                  have HKc := Lib.hid HK.out.drew
                  have hC : (fun W => (W.cell? ⟨q, 0, none⟩ = some (.slice (some ⟨ha, 0, none⟩) p.ats.length hc) ∧ W.cell? ⟨q, 1, none⟩ = some (.slice (some ⟨ga, 0, none⟩) p.gr.length gc) ∧ W.cell? ⟨q, 2, none⟩ = some (.int .i64 p.tall) ∧ W.cell? ⟨q, 3, none⟩ = some (.int .i64 p.lo) ∧ W.cell? ⟨q, 4, none⟩ = some (.int .i64 p.hi)) ∧ W.cell? ⟨lg, j1, none⟩ = some (.int .i64 (xa : Int)) ∧ W.cell? ⟨lg, jj, none⟩ = some (.int .i64 (xb : Int))) wr.drew := ⟨HKc.out.box5 (t := 27) List.mem_cons_self, by simpa using q0, by simpa using q1⟩
                  clear HK q0 q1
                  generalize hW0 : wr.drew = W6 at HKc hC
                  refine Lim.regC' (fun W => (W.cell? ⟨q, 0, none⟩ = some (.slice (some ⟨ha, 0, none⟩) p.ats.length hc) ∧ W.cell? ⟨q, 1, none⟩ = some (.slice (some ⟨ga, 0, none⟩) p.gr.length gc) ∧ W.cell? ⟨q, 2, none⟩ = some (.int .i64 p.tall) ∧ W.cell? ⟨q, 3, none⟩ = some (.int .i64 p.lo) ∧ W.cell? ⟨q, 4, none⟩ = some (.int .i64 p.hi)) ∧ W.cell? ⟨lg, j1, none⟩ = some (.int .i64 (xa : Int)) ∧ W.cell? ⟨lg, jj, none⟩ = some (.int .i64 (xb : Int))) [] #[false, false, false, false, false, false, false, false, false, false, false, false, false, false, false, false, false, false] (by kernel_rfl) rfl ?_
                  rw [hW0]; clear hW0
                  refine Lim.stepR 0 (fun _ => trivial) rfl (by kernel_rfl) (fun _ _ _ _ h => h) hC rfl ?_; apply Exists.intro; refine ⟨?_, ?_⟩
                  · rintro w ⟨⟨r0, r1, r2, r3, r4⟩, r5, r6⟩; go_simp; try with_reducible rfl
                  simp only [Act.put, List.setIfInBounds_toArray, List.set_cons_succ, List.set_cons_zero]
                  refine Lim.stepR 1 (fun _ => trivial) rfl (by kernel_rfl) (fun _ _ _ _ h => h) hC rfl ?_; apply Exists.intro; refine ⟨?_, ?_⟩
                  · rintro w ⟨⟨r0, r1, r2, r3, r4⟩, r5, r6⟩; go_simp; try with_reducible rfl
                  simp only [Act.put, List.setIfInBounds_toArray, List.set_cons_succ, List.set_cons_zero]
                  refine Lim.stepR 2 (fun _ => trivial) rfl (by kernel_rfl) (fun _ _ _ _ h => h) hC rfl ?_; apply Exists.intro; refine ⟨?_, ?_⟩
                  · rintro w ⟨⟨r0, r1, r2, r3, r4⟩, r5, r6⟩; go_simp; try with_reducible rfl
                  simp only [Act.put, List.setIfInBounds_toArray, List.set_cons_succ, List.set_cons_zero]
                  refine Lim.stepR 3 (fun _ => trivial) rfl (by kernel_rfl) (fun _ _ _ _ h => h) hC rfl ?_; apply Exists.intro; refine ⟨?_, ?_⟩
                  · rintro w ⟨⟨r0, r1, r2, r3, r4⟩, r5, r6⟩; go_simp; try with_reducible rfl
                  simp only [Act.put, List.setIfInBounds_toArray, List.set_cons_succ, List.set_cons_zero]
                  refine Lim.stepR 4 (fun _ => trivial) rfl (by kernel_rfl) (fun _ _ _ _ h => h) hC rfl ?_; apply Exists.intro; refine ⟨?_, ?_⟩
                  · rintro w ⟨⟨r0, r1, r2, r3, r4⟩, r5, r6⟩; go_simp; try with_reducible rfl
                  simp only [Act.put, List.setIfInBounds_toArray, List.set_cons_succ, List.set_cons_zero]
                  refine Lim.stepR 5 (fun _ => trivial) rfl (by kernel_rfl) (fun _ _ _ _ h => h) hC rfl ?_; apply Exists.intro; refine ⟨?_, ?_⟩
                  · rintro w ⟨⟨r0, r1, r2, r3, r4⟩, r5, r6⟩; go_simp; try with_reducible rfl
                  simp only [Act.put, List.setIfInBounds_toArray, List.set_cons_succ, List.set_cons_zero]
                  refine Lim.stepR 6 (fun _ => trivial) rfl (by kernel_rfl) (fun _ _ _ _ h => h) hC rfl ?_; apply Exists.intro; refine ⟨?_, ?_⟩
                  · rintro w ⟨⟨r0, r1, r2, r3, r4⟩, r5, r6⟩; go_simp; try with_reducible rfl
                  simp only [Act.put, List.setIfInBounds_toArray, List.set_cons_succ, List.set_cons_zero]
                  refine Lim.stepR 7 (fun _ => trivial) rfl (by kernel_rfl) (fun _ _ _ _ h => h) hC rfl ?_; apply Exists.intro; refine ⟨?_, ?_⟩
                  · rintro w ⟨⟨r0, r1, r2, r3, r4⟩, r5, r6⟩; go_simp; try with_reducible rfl
                  simp only [Act.put, List.setIfInBounds_toArray, List.set_cons_succ, List.set_cons_zero]
                  refine Lim.stepR 8 (fun _ => trivial) rfl (by kernel_rfl) (fun _ _ _ _ h => h) hC rfl ?_; apply Exists.intro; refine ⟨?_, ?_⟩
                  · rintro w ⟨⟨r0, r1, r2, r3, r4⟩, r5, r6⟩; go_simp; try with_reducible rfl
                  simp only [Act.put, List.setIfInBounds_toArray, List.set_cons_succ, List.set_cons_zero]
                  refine Lim.stepR 9 (fun _ => trivial) rfl (by kernel_rfl) (fun _ _ _ _ h => h) hC rfl ?_; apply Exists.intro; refine ⟨?_, ?_⟩
                  · rintro w ⟨⟨r0, r1, r2, r3, r4⟩, r5, r6⟩; go_simp; try with_reducible rfl
                  simp only [Act.put, List.setIfInBounds_toArray, List.set_cons_succ, List.set_cons_zero]
                  refine Lim.stepR 10 (fun _ => trivial) rfl (by kernel_rfl) (fun _ _ _ _ h => h) hC rfl ?_; apply Exists.intro; refine ⟨?_, ?_⟩
                  · rintro w ⟨⟨r0, r1, r2, r3, r4⟩, r5, r6⟩; go_simp; try with_reducible rfl
                  simp only [Act.put, List.setIfInBounds_toArray, List.set_cons_succ, List.set_cons_zero]
                  refine Lim.stepR 11 (fun _ => trivial) rfl (by kernel_rfl) (fun _ _ _ _ h => h) hC rfl ?_; apply Exists.intro; refine ⟨?_, ?_⟩
                  · rintro w ⟨⟨r0, r1, r2, r3, r4⟩, r5, r6⟩; go_simp; try with_reducible rfl
                  simp only [Act.put, List.setIfInBounds_toArray, List.set_cons_succ, List.set_cons_zero]
                  refine Lim.stepE 12 (fun _ => trivial) rfl (by kernel_rfl) rfl (fun K hK => ?_)   -- E call
                  go_simp
                  refine ⟨rfl, (callsIn_wide.2 (Real_any (p := p) (xs := T1) (B := W6.heap.size) (Nat.le_refl _) (HKc.out.rsI (v := .slice (some ⟨ha, 0, none⟩) p.ats.length hc) (n := p.ats.length) (l := p.ats) (.inl (by simp)) rfl) (HKc.out.rsS (v := .slice (some ⟨ga, 0, none⟩) p.gr.length gc) (n := p.gr.length) (l := p.gr) (.inl (by simp)) rfl) (HKc.out.rsI (v := .slice (some ⟨ta2, 0, none⟩) T1.length c18) (n := T1.length) (l := T1) (.inl (by simp)) rfl) (by have := HT1.out.len; have := HLN.out; omega))).mono ?_⟩
                  rintro e W7 ⟨rfl, hb⟩
                  have HKd := Lib.hid (HKc.out.grow hb)
                  have hC2 : (fun W => (W.cell? ⟨q, 0, none⟩ = some (.slice (some ⟨ha, 0, none⟩) p.ats.length hc) ∧ W.cell? ⟨q, 1, none⟩ = some (.slice (some ⟨ga, 0, none⟩) p.gr.length gc) ∧ W.cell? ⟨q, 2, none⟩ = some (.int .i64 p.tall) ∧ W.cell? ⟨q, 3, none⟩ = some (.int .i64 p.lo) ∧ W.cell? ⟨q, 4, none⟩ = some (.int .i64 p.hi)) ∧ W.cell? ⟨lg, j1, none⟩ = some (.int .i64 (xa : Int)) ∧ W.cell? ⟨lg, jj, none⟩ = some (.int .i64 (xb : Int))) W7 := ⟨⟨hb.on hC.1.1, hb.on hC.1.2.1, hb.on hC.1.2.2.1, hb.on hC.1.2.2.2.1, hb.on hC.1.2.2.2.2⟩, hb.on hC.2.1, hb.on hC.2.2⟩
                  rw [real_ok HOK.out HT1.out (Nat.lt_trans HX.out.1 HX.out.2.1) HX.out.2.1 (by have := HX.out; omega), (real_le HOK.out HT1.out (Nat.lt_trans HX.out.1 HX.out.2.1) HX.out.2.1).1 HX.out.2.2]
                  refine hK _ _ hC2 ?_
                  clear hK hb HKc hC
                  simp only [Act.put, List.setIfInBounds_toArray, List.set_cons_succ, List.set_cons_zero]
                  refine Lim.stepR 13 (fun _ => trivial) rfl (by kernel_rfl) (fun _ _ _ _ h => h) hC2 rfl ?_; apply Exists.intro; refine ⟨?_, ?_⟩
                  · rintro w ⟨⟨r0, r1, r2, r3, r4⟩, r5, r6⟩; go_simp; try with_reducible rfl
                  simp only [Act.put, List.setIfInBounds_toArray, List.set_cons_succ, List.set_cons_zero]
                  refine Lim.stepR 14 (fun _ => trivial) rfl (by kernel_rfl) (fun _ _ _ _ h => h) hC2 rfl ?_; apply Exists.intro; refine ⟨?_, ?_⟩
                  · rintro w ⟨⟨r0, r1, r2, r3, r4⟩, r5, r6⟩; go_simp; try with_reducible rfl
                  simp only [Act.put, List.setIfInBounds_toArray, List.set_cons_succ, List.set_cons_zero]
                  refine Lim.stepR 15 (fun _ => trivial) rfl (by kernel_rfl) (fun _ _ _ _ h => h) hC2 rfl ?_; apply Exists.intro; refine ⟨?_, ?_⟩
                  · rintro w ⟨⟨r0, r1, r2, r3, r4⟩, r5, r6⟩; go_simp; try with_reducible rfl
                  simp only [Act.put, List.setIfInBounds_toArray, List.set_cons_succ, List.set_cons_zero]
                  refine Lim.stepR 16 (fun _ => trivial) rfl (by kernel_rfl) (fun _ _ _ _ h => h) hC2 rfl ?_; apply Exists.intro; refine ⟨?_, ?_⟩
                  · rintro w ⟨⟨r0, r1, r2, r3, r4⟩, r5, r6⟩; go_simp; try with_reducible rfl
                  simp only [Act.put, List.setIfInBounds_toArray, List.set_cons_succ, List.set_cons_zero]
                  refine Lim.stepR 17 (fun _ => trivial) rfl (by kernel_rfl) (fun _ _ _ _ h => h) hC2 rfl ?_; apply Exists.intro; refine ⟨?_, ?_⟩
                  · rintro w ⟨⟨r0, r1, r2, r3, r4⟩, r5, r6⟩; go_simp; try with_reducible rfl
                  simp only [Act.put, List.setIfInBounds_toArray, List.set_cons_succ, List.set_cons_zero]
                  refine Lim.stepD (by kernel_rfl) ?_
                  clear hC2 ew
                  clear hb1 hb2
                  go_wp2
                  go_roundw
                  case rel => exact ⟨jj + 1, by omega, by omega, by go_num, HKd⟩
                  case measure => simp [intOf]; omega
                · have hje : ¬ ((j : Int) < (L.length : Int)) := by omega
                  have HKc : Hid (Mem w S d1 c1 (rwI (.slice (some ⟨vg, 0, none⟩) p.n vgc) p.n l :: rwI (.slice (some ⟨lg, 0, none⟩) L.length lgc) L.length (L.map Int.ofNat) :: [rwI (.slice (some ⟨ha, 0, none⟩) p.ats.length hc) p.ats.length p.ats, rwS (.slice (some ⟨ga, 0, none⟩) p.gr.length gc) p.gr.length p.gr, rwI (.slice (some ⟨ta, 0, none⟩) T.length tc) T.length T]) [] [(q, Obj.cells #[.slice (some ⟨ha, 0, none⟩) p.ats.length hc, .slice (some ⟨ga, 0, none⟩) p.gr.length gc, .int .i64 p.tall, .int .i64 p.lo, .int .i64 p.hi] 27 (0, 0))] wr) := Lib.hid (HK.out.less (fun _ h => List.mem_cons_of_mem _ h) (List.Sublist.refl _) (List.Sublist.refl _))
                  clear HK hlj hj1 hj
                  go_wp2
                  go_roundw
                  case rel => exact ⟨k + 1, c1, by omega, by go_num, HC1, HKc⟩
                  case measure => simp [intOf]; omega
      · have hke : ¬ ((k : Int) < 5) := by omega
        have HC0 : Hid (c ≤ 250) := Lib.hid (by have := HC.out; omega)
        clear hlt hk HC
        go_wp2_with fail
        clear hke
        go_loopw [132] (fun i W => ∃ s c : Nat, s ≤ 5 ∧ i = .int .i64 s ∧ Hid (c ≤ 250 + 60 * s) ∧ Hid (Mem w S d1 c (rwI (.slice (some ⟨vg, 0, none⟩) p.n vgc) p.n l :: rwI (.slice (some ⟨lg, 0, none⟩) L.length lgc) L.length (L.map Int.ofNat) :: [rwI (.slice (some ⟨ha, 0, none⟩) p.ats.length hc) p.ats.length p.ats, rwS (.slice (some ⟨ga, 0, none⟩) p.gr.length gc) p.gr.length p.gr, rwI (.slice (some ⟨ta, 0, none⟩) T.length tc) T.length T]) [] [(q, Obj.cells #[.slice (some ⟨ha, 0, none⟩) p.ats.length hc, .slice (some ⟨ga, 0, none⟩) p.gr.length gc, .int .i64 p.tall, .int .i64 p.lo, .int .i64 p.hi] 27 (0, 0))] W)) (fun i _ => 5 - (intOf i).toNat)
        case atStart => exact ⟨0, c, by omega, rfl, Lib.hid (by have := HC0.out; omega), HK⟩
        case round =>
          as_aux_lemma =>
            clear HK
            obtain ⟨s, c, hs, rfl, HC, HK⟩ := hrel
            by_cases hls : s < 5
            · have hs5 : (s : Int) < 5 := by omega
              obtain ⟨b0, b1, b2, b3, b4⟩ := HK.out.box5 (q := q) (a := .slice (some ⟨ha, 0, none⟩) p.ats.length hc) (b := .slice (some ⟨ga, 0, none⟩) p.gr.length gc) (e := .int .i64 p.tall) (f := .int .i64 p.lo) (g := .int .i64 p.hi) (t := 27) (by simp)
              go_wp2_with fail
              clear b0 b1 b2 b3 b4
              have HMi : Hid (MineTo p.n 0 [] []) := Lib.hid ⟨Nat.le_refl _, fun x hx => (by cases hx), rfl, fun j hj => by omega⟩
              go_loopw [23, 24, 137] (fun mv bv i W => ∃ (k c2 : Nat) (A B : List Int), k ≤ p.ats.length ∧ i = .int .i64 k ∧ Hid (c2 ≤ c + 4 * k) ∧ Hid (MineTo p.n k A B) ∧ Hid (Mem w S d1 c2 (rwI (.slice (some ⟨vg, 0, none⟩) p.n vgc) p.n l :: rwI (.slice (some ⟨lg, 0, none⟩) L.length lgc) L.length (L.map Int.ofNat) :: [rwI (.slice (some ⟨ha, 0, none⟩) p.ats.length hc) p.ats.length p.ats, rwS (.slice (some ⟨ga, 0, none⟩) p.gr.length gc) p.gr.length p.gr, rwI (.slice (some ⟨ta, 0, none⟩) T.length tc) T.length T]) [rwI mv A.length A, rwI bv B.length B] [(q, Obj.cells #[.slice (some ⟨ha, 0, none⟩) p.ats.length hc, .slice (some ⟨ga, 0, none⟩) p.gr.length gc, .int .i64 p.tall, .int .i64 p.lo, .int .i64 p.hi] 27 (0, 0))] W)) (fun _ _ i _ => p.ats.length - (intOf i).toNat)
              case atStart => exact ⟨0, c, [], [], Nat.zero_le _, rfl, Lib.hid (Nat.le_refl _), HMi, Lib.hid ((HK.out.nilQ 3 1).nilQ 3 1)⟩
              case round =>
                as_aux_lemma =>
                  clear HK HMi
                  obtain ⟨k, c2, A, B, hk, rfl, HC2, HMT, HK⟩ := hrel
                  by_cases hlk : k < p.ats.length
                  · have hki : (k : Int) < (p.ats.length : Int) := by omega
                    have hk40 : k < 40 := by have := HLN.out; omega
                    obtain ⟨b0, b1, b2, b3, b4⟩ := HK.out.box5 (q := q) (a := .slice (some ⟨ha, 0, none⟩) p.ats.length hc) (b := .slice (some ⟨ga, 0, none⟩) p.gr.length gc) (e := .int .i64 p.tall) (f := .int .i64 p.lo) (g := .int .i64 p.hi) (t := 27) (by simp)
                    go_upto_region 28 with (fail)
                    go_cut [154] from 140 to 153 (fun s154 wx => ∃ (bb : Bool) (c3 : Nat), s154 = .bool bb ∧ Hid (c3 ≤ c2 + 1) ∧ Hid (Mem w S d1 c3 (rwI (.slice (some ⟨vg, 0, none⟩) p.n vgc) p.n l :: rwI (.slice (some ⟨lg, 0, none⟩) L.length lgc) L.length (L.map Int.ofNat) :: [rwI (.slice (some ⟨ha, 0, none⟩) p.ats.length hc) p.ats.length p.ats, rwS (.slice (some ⟨ga, 0, none⟩) p.gr.length gc) p.gr.length p.gr, rwI (.slice (some ⟨ta, 0, none⟩) T.length tc) T.length T]) [rwI u23 A.length A, rwI u24 B.length B] [(q, Obj.cells #[.slice (some ⟨ha, 0, none⟩) p.ats.length hc, .slice (some ⟨ga, 0, none⟩) p.gr.length gc, .int .i64 p.tall, .int .i64 p.lo, .int .i64 p.hi] 27 (0, 0))] wx))
                    case first =>
                      as_aux_lemma =>
                        by_cases hk0 : k = 0
                        · have d0 : ((k : Int) == 0) = true := by rw [beq_iff_eq]; omega
                          clear hk0
                          go_wp2
                          go_meet
                          case rel => exact ⟨true, c2, rfl, Lib.hid (Nat.le_succ _), HK⟩
                        · have d0 : ((k : Int) == 0) = false := by rw [beq_eq_false_iff_ne]; omega
                          have ewl : wrap64 ((p.ats.length : Int) - 1) = (p.ats.length : Int) - 1 := IntWalk.wrap64_in _ (by have := HLN.out; omega)
                          by_cases hkl : k + 1 = p.ats.length
                          · have d1' : (p.ats.length : Int) - 1 = (k : Int) := by omega
                            have d1a : wrap64 ((p.ats.length : Int) - 1) = (k : Int) := by rw [ewl]; omega
                            clear ewl
                            go_wp2
                            go_meet
                            case rel => exact ⟨true, c2, rfl, Lib.hid (Nat.le_succ _), HK⟩
                          · have d1' : ((k : Int) == (p.ats.length : Int) - 1) = false := by rw [beq_eq_false_iff_ne]; omega
                            have d1a : ((k : Int) == wrap64 ((p.ats.length : Int) - 1)) = false := by rw [ewl]; exact d1'
                            clear ewl
                            go_wp2_with fail
                            refine (deck_draw (n := 3) HK.out.dk (by have := HC2.out; have := HC.out; omega)).mono ?_
                            rintro e W2 ⟨r, rfl, -, hdl⟩
                            have HKa := Lib.hid (HK.out.dealt hdl)
                            obtain ⟨bb, hbb⟩ : ∃ bb, decide (0 < r) = bb := ⟨_, rfl⟩
                            clear hdl HK
                            go_wp2
                            go_meet
                            case rel => exact ⟨bb, c2 + 1, rfl, Lib.hid (Nat.le_refl _), HKa⟩
                    case rest =>
                      as_aux_lemma =>
                        obtain ⟨bb, c3, rfl, HC3, HK3⟩ := hcut
                        clear HK b0 b1 b2 b3 b4
                        have HAL : Hid (A.length ≤ 40 ∧ B.length ≤ 40) := Lib.hid (by have h1 := HMT.out.la; have h2 := HMT.out.lb; omega)
                        go_upto_if 154 with (fail)
                        go_cut [23] from 154 to 158 (fun s23 wx => ∃ (A1 : List Int), Hid (A1.length ≤ k + 1 ∧ ∀ x ∈ A1, 0 ≤ x ∧ x < p.n) ∧ Hid (Mem w S d1 c3 (rwI (.slice (some ⟨vg, 0, none⟩) p.n vgc) p.n l :: rwI (.slice (some ⟨lg, 0, none⟩) L.length lgc) L.length (L.map Int.ofNat) :: [rwI (.slice (some ⟨ha, 0, none⟩) p.ats.length hc) p.ats.length p.ats, rwS (.slice (some ⟨ga, 0, none⟩) p.gr.length gc) p.gr.length p.gr, rwI (.slice (some ⟨ta, 0, none⟩) T.length tc) T.length T]) [rwI s23 A1.length A1, rwI u24 B.length B] [(q, Obj.cells #[.slice (some ⟨ha, 0, none⟩) p.ats.length hc, .slice (some ⟨ga, 0, none⟩) p.gr.length gc, .int .i64 p.tall, .int .i64 p.lo, .int .i64 p.hi] 27 (0, 0))] wx))
                        case first =>
                          as_aux_lemma =>
                            cases bb with
                            | false =>
                              go_wp2
                              go_meet
                              case rel => exact ⟨A, Lib.hid ⟨by have := HMT.out.la; omega, HMT.out.a⟩, HK3⟩
                            | true =>
                              have HOW : Hid ((wc.alloc (.cells #[.int .i64 (k : Int)] 3)).ownsRow S 3 1 u23 A.length (ints A)) := Lib.hid ((HK3.out.grow ((Below.refl _ wc).alloc (Nat.le_refl _) (.cells #[.int .i64 k] 3))).q (rwI u23 A.length A) List.mem_cons_self)
                              go_wp2_with (at_builtin; refine wpList_append_own_at _ rfl _ _ 22 rfl S 3 i0 (.int .i64 0) 1 8 Try.underlying22 HI.out.1 HI.out.2.1 HI.out.2.2.1 HI.out.2.2.2 rfl (by decide) _ _ _ rfl HOW.out ⟨wc.heap.size, 0, none⟩ 1 1 [.int .i64 k] rfl rfl (cell_one_new _ _ _) (by simp [Value.oneCell']) (by have := HAL.out; unfold maxLen; omega) (by have := HAL.out; omega) ((HK3.out.grow ((Below.refl _ wc).alloc (Nat.le_refl _) (.cells #[.int .i64 k] 3))).o.2.2) ?_; intro v' w3' hown3 hgrow _ hat; have HAT := Lib.hid (And.intro hown3 (And.intro hgrow hat)); clear hown3 hgrow hat)
                              have H3 := Lib.hid (Mem.push (Q1 := []) (HK3.out.grow ((Below.refl _ wc).alloc (Nat.le_refl _) (.cells #[.int .i64 k] 3))) HAT.out.1 HAT.out.2.1 HAT.out.2.2)
                              clear HAT
                              go_meet
                              case rel => exact ⟨_, Lib.hid ⟨by have := HMT.out.la; simp; omega, HMT.out.mine (by have := HLN.out; omega) (by have := HMT.out.la; omega)⟩, H3⟩
                        case rest =>
                          as_aux_lemma =>
                            obtain ⟨A1, HA1, HK4⟩ := hcut
                            clear HK3
                            go_wp2_with fail
                            refine (deck_draw (n := 4) HK4.out.dk (by have := HC3.out; have := HC2.out; have := HC.out; omega)).mono ?_
                            rintro e W2 ⟨y, rfl, hy, hdl⟩
                            have HKa := Lib.hid (HK4.out.dealt hdl)
                            have HLB := Lib.hid (lab_snoc (y := y) HMT.out.lb HMT.out.b (by have := hy.2.2 (by omega); omega))
                            clear hdl hy HK4
                            have HOW : Hid ((W2.alloc (.cells #[.int .i64 (y : Int)] 3)).ownsRow S 3 1 u24 B.length (ints B)) := Lib.hid ((HKa.out.grow ((Below.refl _ W2).alloc (Nat.le_refl _) (.cells #[.int .i64 y] 3))).q (rwI u24 B.length B) (List.mem_cons_of_mem _ List.mem_cons_self))
                            go_upto_region 31 with (at_builtin; refine wpList_append_own_at _ rfl _ _ 22 rfl S 3 i0 (.int .i64 0) 1 8 Try.underlying22 HI.out.1 HI.out.2.1 HI.out.2.2.1 HI.out.2.2.2 rfl (by decide) _ _ _ rfl HOW.out ⟨W2.heap.size, 0, none⟩ 1 1 [.int .i64 y] rfl rfl (cell_one_new _ _ _) (by simp [Value.oneCell']) (by have := HAL.out; unfold maxLen; omega) (by have := HAL.out; omega) ((HKa.out.grow ((Below.refl _ W2).alloc (Nat.le_refl _) (.cells #[.int .i64 y] 3))).o.2.2) ?_; intro v' w3' hown3 hgrow _ hat; have HAT := Lib.hid (And.intro hown3 (And.intro hgrow hat)); clear hown3 hgrow hat)
                            have H3 := Lib.hid (Mem.push (Q1 := [_]) (HKa.out.grow ((Below.refl _ W2).alloc (Nat.le_refl _) (.cells #[.int .i64 y] 3))) HAT.out.1 HAT.out.2.1 HAT.out.2.2)
                            clear HAT
                            clear HMT
                            go_cut [170] from 164 to 169 (fun s170 wx => ∃ (b2 : Bool) (c4 : Nat), s170 = .bool b2 ∧ (b2 = true → 0 < k) ∧ Hid (c4 ≤ c3 + 2) ∧ Hid (Mem w S d1 c4 (rwI (.slice (some ⟨vg, 0, none⟩) p.n vgc) p.n l :: rwI (.slice (some ⟨lg, 0, none⟩) L.length lgc) L.length (L.map Int.ofNat) :: [rwI (.slice (some ⟨ha, 0, none⟩) p.ats.length hc) p.ats.length p.ats, rwS (.slice (some ⟨ga, 0, none⟩) p.gr.length gc) p.gr.length p.gr, rwI (.slice (some ⟨ta, 0, none⟩) T.length tc) T.length T]) [rwI u23 A1.length A1, rwI v' (B ++ [y]).length (B ++ [y])] [(q, Obj.cells #[.slice (some ⟨ha, 0, none⟩) p.ats.length hc, .slice (some ⟨ga, 0, none⟩) p.gr.length gc, .int .i64 p.tall, .int .i64 p.lo, .int .i64 p.hi] 27 (0, 0))] wx))
                            case first =>
                              as_aux_lemma =>
                                by_cases hk0 : 0 < k
                                · have HK0 := Lib.hid hk0
                                  have d0 : decide (0 < k) = true := by rw [decide_eq_true_eq]; exact hk0
                                  go_wp2_with fail
                                  refine (deck_draw (n := 3) H3.out.dk (by have := HC3.out; have := HC2.out; have := HC.out; omega)).mono ?_
                                  rintro e W3 ⟨r, rfl, -, hdl⟩
                                  have HKb := Lib.hid (H3.out.dealt hdl)
                                  obtain ⟨b2, hb2⟩ : ∃ b, decide (0 < r) = b := ⟨_, rfl⟩
                                  clear hdl H3
                                  go_wp2
                                  go_meet
                                  case rel => exact ⟨b2, c3 + 1 + 1, rfl, fun _ => HK0.out, Lib.hid (Nat.le_refl _), HKb⟩
                                · have d0 : decide (0 < k) = false := by rw [decide_eq_false_iff_not]; exact hk0
                                  clear hk0
                                  go_wp2
                                  go_meet
                                  case rel => exact ⟨false, c3 + 1, rfl, fun h => (by cases h), Lib.hid (Nat.le_succ _), H3⟩
                            case rest =>
                              as_aux_lemma =>
                                obtain ⟨b2, c4, rfl, hbk, HC4, HK5⟩ := hcut
                                have HBK := Lib.hid hbk
                                clear H3 hbk
                                cases b2 with
                                | false =>
                                  go_wp2
                                  go_roundw
                                  case rel => exact ⟨k + 1, c4, _, _, by omega, by go_num, Lib.hid (by have := HC4.out; have := HC3.out; have := HC2.out; omega), Lib.hid ⟨HA1.out.1, HA1.out.2, HLB.out.1, HLB.out.2⟩, HK5⟩
                                  case measure => simp [intOf]; omega
                                | true =>
                                  have hk0 : 0 < k := HBK.out rfl
                                  obtain ⟨kp, hkp⟩ : ∃ kp, kp = k - 1 := ⟨_, rfl⟩
                                  have HKP : Hid (kp + 1 = k) := Lib.hid (by omega)
                                  have ew : IntKind.i64.wrap ((k : Int) - 1) = (kp : Int) := by rw [IntWalk.i64_in _ (by omega)]; omega
                                  clear hkp hk0
                                  generalize B ++ [y] = BL at HLB HK5 ⊢
                                  obtain ⟨lb, lbc, rfl⟩ : ∃ g cap, v' = .slice (some ⟨g, 0, none⟩) BL.length cap := form_pos (r := rwI v' BL.length BL) (HK5.out.q (rwI v' BL.length BL) (List.mem_cons_of_mem _ List.mem_cons_self)) (show 0 < BL.length by have := HLB.out.1; omega)
                                  obtain ⟨xv, hxv⟩ : ∃ x, x = BL.getD kp 0 := ⟨_, rfl⟩
                                  have HXV := Lib.hid hxv
                                  have hx0 : 0 ≤ xv := by rw [hxv]; exact (HLB.out.2 kp (by have := HKP.out; omega)).1
                                  have hx1 : xv ≤ 40 := by rw [hxv]; exact (HLB.out.2 kp (by have := HKP.out; omega)).2
                                  have hb1 : (kp : Int) < (BL.length : Int) := by have h1 := HKP.out; have h2 := HLB.out.1; omega
                                  have hb2 : (k : Int) < (BL.length : Int) := by have h2 := HLB.out.1; omega
                                  have q0 := HK5.out.cellI (g := lb) (n := BL.length) (cap := lbc) (l := BL) (.inr (by simp)) (j := kp) (by omega)
                                  rw [← hxv] at q0
                                  clear hxv
                                  go_upto_region 32 with (fail)
                                  have HKd0 := Lib.hid HK5.out.drew
                                  have hC : (fun W => W.cell? ⟨lb, kp, none⟩ = some (.int .i64 xv)) wc.drew := by simpa using q0
                                  clear HK5 q0
                                  generalize hW0 : wc.drew = W6 at HKd0 hC
                                  refine Lim.regC' (fun W => W.cell? ⟨lb, kp, none⟩ = some (.int .i64 xv)) [] #[false, false, false, false, false, false, false, false, false, false, false, false, false] (by kernel_rfl) rfl ?_
                                  rw [hW0]; clear hW0
                                  refine Lim.stepR 0 (fun _ => trivial) rfl (by kernel_rfl) (fun _ _ _ _ h => h) hC rfl ?_; apply Exists.intro; refine ⟨?_, ?_⟩
                                  · rintro w r0; go_simp; try with_reducible rfl
                                  simp only [Act.put, List.setIfInBounds_toArray, List.set_cons_succ, List.set_cons_zero]
                                  refine Lim.stepR 1 (fun _ => trivial) rfl (by kernel_rfl) (fun _ _ _ _ h => h) hC rfl ?_; apply Exists.intro; refine ⟨?_, ?_⟩
                                  · rintro w r0; go_simp; try with_reducible rfl
                                  simp only [Act.put, List.setIfInBounds_toArray, List.set_cons_succ, List.set_cons_zero]
                                  refine Lim.stepR 2 (fun _ => trivial) rfl (by kernel_rfl) (fun _ _ _ _ h => h) hC rfl ?_; apply Exists.intro; refine ⟨?_, ?_⟩
                                  · rintro w r0; go_simp; try with_reducible rfl
                                  simp only [Act.put, List.setIfInBounds_toArray, List.set_cons_succ, List.set_cons_zero]
                                  refine Lim.stepR 3 (fun _ => trivial) rfl (by kernel_rfl) (fun _ _ _ _ h => h) hC rfl ?_; apply Exists.intro; refine ⟨?_, ?_⟩
                                  · rintro w r0; go_simp; try with_reducible rfl
                                  simp only [Act.put, List.setIfInBounds_toArray, List.set_cons_succ, List.set_cons_zero]
                                  refine Lim.stepR 4 (fun _ => trivial) rfl (by kernel_rfl) (fun _ _ _ _ h => h) hC rfl ?_; apply Exists.intro; refine ⟨?_, ?_⟩
                                  · rintro w r0; go_simp; try with_reducible rfl
                                  simp only [Act.put, List.setIfInBounds_toArray, List.set_cons_succ, List.set_cons_zero]
                                  refine Lim.stepR 5 (fun _ => trivial) rfl (by kernel_rfl) (fun _ _ _ _ h => h) hC rfl ?_; apply Exists.intro; refine ⟨?_, ?_⟩
                                  · rintro w r0; go_simp; try with_reducible rfl
                                  simp only [Act.put, List.setIfInBounds_toArray, List.set_cons_succ, List.set_cons_zero]
                                  refine Lim.stepR 6 (fun _ => trivial) rfl (by kernel_rfl) (fun _ _ _ _ h => h) hC rfl ?_; apply Exists.intro; refine ⟨?_, ?_⟩
                                  · rintro w r0; go_simp; try with_reducible rfl
                                  simp only [Act.put, List.setIfInBounds_toArray, List.set_cons_succ, List.set_cons_zero]
                                  refine Lim.stepR 7 (fun _ => trivial) rfl (by kernel_rfl) (fun _ _ _ _ h => h) hC rfl ?_; apply Exists.intro; refine ⟨?_, ?_⟩
                                  · rintro w r0; go_simp; try with_reducible rfl
                                  simp only [Act.put, List.setIfInBounds_toArray, List.set_cons_succ, List.set_cons_zero]
                                  refine Lim.stepE 8 (fun _ => trivial) rfl (by kernel_rfl) rfl (fun K hK => ?_)   -- E call
                                  go_simp
                                  refine ⟨rfl, (callsIn_wide.2 (deck_draw (n := 2) HKd0.out.dk (by have := HC4.out; have := HC3.out; have := HC2.out; have := HC.out; omega))).mono ?_⟩
                                  rintro e W7 ⟨r, rfl, hr, hdl⟩
                                  have HKd := Lib.hid (HKd0.out.dealt hdl)
                                  have hr0 : 0 ≤ r := hr.2.1
                                  have hr1 : r ≤ 1 := by have := hr.2.2 (by omega); omega
                                  have hC2 : (fun W => W.cell? ⟨lb, kp, none⟩ = some (.int .i64 xv)) W7 := by have := HKd.out.cellI (g := lb) (n := BL.length) (cap := lbc) (l := BL) (.inr (by simp)) (j := kp) (by omega); rw [← HXV.out] at this; exact this
                                  refine hK _ _ hC2 ?_
                                  clear hK hdl hr HKd0 hC
                                  simp only [Act.put, List.setIfInBounds_toArray, List.set_cons_succ, List.set_cons_zero]
                                  refine Lim.stepR 9 (fun _ => trivial) rfl (by kernel_rfl) (fun _ _ _ _ h => h) hC2 rfl ?_; apply Exists.intro; refine ⟨?_, ?_⟩
                                  · rintro w r0; go_simp; try with_reducible rfl
                                  simp only [Act.put, List.setIfInBounds_toArray, List.set_cons_succ, List.set_cons_zero]
                                  refine Lim.stepR 10 (fun _ => trivial) rfl (by kernel_rfl) (fun _ _ _ _ h => h) hC2 rfl ?_; apply Exists.intro; refine ⟨?_, ?_⟩
                                  · rintro w r0; go_simp; try with_reducible rfl
                                  simp only [Act.put, List.setIfInBounds_toArray, List.set_cons_succ, List.set_cons_zero]
                                  refine Lim.stepR 11 (fun _ => trivial) rfl (by kernel_rfl) (fun _ _ _ _ h => h) hC2 rfl ?_; apply Exists.intro; refine ⟨?_, ?_⟩
                                  · rintro w r0; go_simp; try with_reducible rfl
                                  simp only [Act.put, List.setIfInBounds_toArray, List.set_cons_succ, List.set_cons_zero]
                                  refine Lim.stepE 12 (fun _ => trivial) rfl (by kernel_rfl) rfl (fun K hK => ?_)   -- E store
                                  have ewx : IntKind.i64.wrap (xv + r) = xv + r := IntWalk.i64_in _ (by omega)
                                  obtain ⟨u, hu⟩ : ∃ u, min 40 (xv + r) = u := ⟨_, rfl⟩
                                  rw [ewx, hu]
                                  have HU : Hid (0 ≤ u ∧ u ≤ 40) := Lib.hid (by omega)
                                  clear ewx hu hr0 hr1
                                  have z0 : W7.cell? ⟨lb, k, none⟩ = _ := HKd.out.cellI (g := lb) (n := BL.length) (cap := lbc) (l := BL) (.inr (by simp)) (j := k) (by omega)
                                  have z1 : W7.frozen? ⟨lb, k, none⟩ = false := row_frz (HKd.out.q (rwI (.slice (some ⟨lb, 0, none⟩) BL.length lbc) BL.length BL) (by simp)) rfl _
                                  go_simp
                                  have HKe0 := Lib.hid (Mem.setI (Q1 := [_]) HKd.out k u)
                                  have HKe : Hid (Mem w S d1 (c4 + 1) (rwI (.slice (some ⟨vg, 0, none⟩) p.n vgc) p.n l :: rwI (.slice (some ⟨lg, 0, none⟩) L.length lgc) L.length (L.map Int.ofNat) :: [rwI (.slice (some ⟨ha, 0, none⟩) p.ats.length hc) p.ats.length p.ats, rwS (.slice (some ⟨ga, 0, none⟩) p.gr.length gc) p.gr.length p.gr, rwI (.slice (some ⟨ta, 0, none⟩) T.length tc) T.length T]) [rwI u23 A1.length A1, rwI (.slice (some ⟨lb, 0, none⟩) BL.length lbc) (BL.set k u).length (BL.set k u)] [(q, Obj.cells #[.slice (some ⟨ha, 0, none⟩) p.ats.length hc, .slice (some ⟨ga, 0, none⟩) p.gr.length gc, .int .i64 p.tall, .int .i64 p.lo, .int .i64 p.hi] 27 (0, 0))] (W7.setCell ⟨lb, k, none⟩ (.int .i64 u))) := by rw [List.length_set]; exact HKe0
                                  have hC3 : (fun W => W.cell? ⟨lb, kp, none⟩ = some (.int .i64 xv)) (W7.setCell ⟨lb, k, none⟩ (.int .i64 u)) := by have := HKe0.out.cellI (g := lb) (n := BL.length) (cap := lbc) (l := BL.set k u) (.inr (by simp)) (j := kp) (by rw [List.length_set]; omega); rw [lev_get, if_neg (by have := HKP.out; omega), ← HXV.out] at this; exact this
                                  refine hK _ _ hC3 ?_
                                  clear hK z0 z1 HKd HKe0 hC2
                                  generalize W7.setCell ⟨lb, k, none⟩ (.int .i64 u) = W8 at HKe hC3 ⊢
                                  simp only [Act.put, List.setIfInBounds_toArray, List.set_cons_succ, List.set_cons_zero]
                                  refine Lim.stepD (by kernel_rfl) ?_
                                  clear hC3 ew
                                  clear hb1 hb2 hx0 hx1
                                  go_wp2
                                  go_roundw
                                  case rel => exact ⟨k + 1, c4 + 1, _, _, by omega, by go_num, Lib.hid (by have := HC4.out; have := HC3.out; have := HC2.out; omega), Lib.hid ⟨HA1.out.1, HA1.out.2, (lab_set HLB.out.1 HLB.out.2 HU.out).1, (lab_set HLB.out.1 HLB.out.2 HU.out).2⟩, HKe⟩
                                  case measure => simp [intOf]; omega
                  · have hke : ¬ ((k : Int) < (p.ats.length : Int)) := by omega
                    have HIN : Hid (inAll p.n A = true ∧ inLev B = true ∧ B.length = p.n ∧ A.length ≤ 40 ∧ c2 ≤ c + 48) := Lib.hid (by
                      have h1 := HLN.out
                      have h2 := HMT.out.la
                      have h3 := HMT.out.lb
                      have h4 := HC2.out
                      exact ⟨HMT.out.inAll, HMT.out.inLev, by omega, by omega, by omega⟩)
                    clear hlk hk HMT HC2
                    obtain ⟨ma, mc, rfl⟩ : ∃ a c, u23 = .slice a A.length c := row_form (r := rwI u23 A.length A) (HK.out.q _ List.mem_cons_self)
                    obtain ⟨b0, b1, b2, b3, b4⟩ := HK.out.box5 (q := q) (a := .slice (some ⟨ha, 0, none⟩) p.ats.length hc) (b := .slice (some ⟨ga, 0, none⟩) p.gr.length gc) (e := .int .i64 p.tall) (f := .int .i64 p.lo) (g := .int .i64 p.hi) (t := 27) (by simp)
                    go_wp2_with fail
                    refine (Holds_any (p := p) (xs := A) (B := wr.heap.size) (Nat.le_refl _) (HK.out.rsI (v := .slice (some ⟨ha, 0, none⟩) p.ats.length hc) (n := p.ats.length) (l := p.ats) (.inl (by simp)) rfl) (HK.out.rsS (v := .slice (some ⟨ga, 0, none⟩) p.gr.length gc) (n := p.gr.length) (l := p.gr) (.inl (by simp)) rfl) (HK.out.rsI (v := .slice ma A.length mc) (n := A.length) (l := A) (.inr (by simp)) rfl) (by have := HIN.out.2.2.2.1; omega)).mono ?_
                    rintro e w9 ⟨rfl, hb⟩
                    have HKf := Lib.hid (HK.out.grow hb)
                    rw [holds_ok HOK.out HIN.out.1]
                    have HHT : Hid (holdsP p A = true → L.length ≤ A.length) := Lib.hid (hold_try HOK.out HIN.out.1 HL.out.1)
                    obtain ⟨hp, hhp⟩ : ∃ b, holdsP p A = b := ⟨_, rfl⟩
                    rw [hhp] at HHT ⊢
                    clear hb HK hhp b0 b1 b2 b3 b4 hke
                    go_upto_region 35 with (fail)
                    go_cut [200] from 190 to 199 (fun s200 wx => s200 = .bool false ∧ Hid (Mem w S d1 c2 (rwI (.slice (some ⟨vg, 0, none⟩) p.n vgc) p.n l :: rwI (.slice (some ⟨lg, 0, none⟩) L.length lgc) L.length (L.map Int.ofNat) :: [rwI (.slice (some ⟨ha, 0, none⟩) p.ats.length hc) p.ats.length p.ats, rwS (.slice (some ⟨ga, 0, none⟩) p.gr.length gc) p.gr.length p.gr, rwI (.slice (some ⟨ta, 0, none⟩) T.length tc) T.length T]) [rwI (.slice ma A.length mc) A.length A, rwI u24 B.length B] [(q, Obj.cells #[.slice (some ⟨ha, 0, none⟩) p.ats.length hc, .slice (some ⟨ga, 0, none⟩) p.gr.length gc, .int .i64 p.tall, .int .i64 p.lo, .int .i64 p.hi] 27 (0, 0))] wx))
                    case first =>
                      as_aux_lemma =>
                        cases hp with
                        | false =>
                          go_wp2
                          go_meet
                          case rel => exact ⟨rfl, HKf⟩
                        | true =>
                          have dd : decide (A.length < L.length) = false := by rw [decide_eq_false_iff_not]; have := HHT.out rfl; omega
                          have dd2 : decide ((A.length : Int) < (L.length : Int)) = false := by rw [decide_eq_false_iff_not]; have := HHT.out rfl; omega
                          go_wp2
                          go_meet
                          case rel => exact ⟨rfl, HKf⟩
                    case rest =>
                      as_aux_lemma =>
                        obtain ⟨rfl, HKg⟩ := hcut
                        clear HKf HHT
                        obtain ⟨b0, b1, b2, b3, b4⟩ := HKg.out.box5 (q := q) (a := .slice (some ⟨ha, 0, none⟩) p.ats.length hc) (b := .slice (some ⟨ga, 0, none⟩) p.gr.length gc) (e := .int .i64 p.tall) (f := .int .i64 p.lo) (g := .int .i64 p.hi) (t := 27) (by simp)
                        go_wp2_with fail
                        refine (Proves_any (p := p) (l := B) (B := wc.heap.size) (Nat.le_refl _) (HKg.out.rsI (v := .slice (some ⟨ha, 0, none⟩) p.ats.length hc) (n := p.ats.length) (l := p.ats) (.inl (by simp)) rfl) (HKg.out.rsS (v := .slice (some ⟨ga, 0, none⟩) p.gr.length gc) (n := p.gr.length) (l := p.gr) (.inl (by simp)) rfl) (HKg.out.rsI (v := u24) (n := B.length) (l := B) (.inr (by simp)) rfl) (by have h1 := HIN.out.2.2.1; have h2 := HLN.out; omega)).mono ?_
                        rintro e w10 h
                        obtain ⟨r, er, rfl, hb, hr⟩ := prov_try HOK.out HIN.out.2.2.1 HIN.out.2.1 HL.out.1 h
                        have HR := Lib.hid hr
                        have HKh := Lib.hid (HKg.out.grow hb)
                        clear h hb hr HKg b0 b1 b2 b3 b4
                        go_upto_region 38 with (fail)
                        go_cut [221] from 207 to 220 (fun s221 wx => s221 = .bool false ∧ Hid (Mem w S d1 c2 (rwI (.slice (some ⟨vg, 0, none⟩) p.n vgc) p.n l :: rwI (.slice (some ⟨lg, 0, none⟩) L.length lgc) L.length (L.map Int.ofNat) :: [rwI (.slice (some ⟨ha, 0, none⟩) p.ats.length hc) p.ats.length p.ats, rwS (.slice (some ⟨ga, 0, none⟩) p.gr.length gc) p.gr.length p.gr, rwI (.slice (some ⟨ta, 0, none⟩) T.length tc) T.length T]) [rwI (.slice ma A.length mc) A.length A, rwI u24 B.length B] [(q, Obj.cells #[.slice (some ⟨ha, 0, none⟩) p.ats.length hc, .slice (some ⟨ga, 0, none⟩) p.gr.length gc, .int .i64 p.tall, .int .i64 p.lo, .int .i64 p.hi] 27 (0, 0))] wx))
                        case first =>
                          as_aux_lemma =>
                            rcases HR.out with ⟨rfl, hrl⟩ | rfl
                            · have dd : decide ((L.length : Int) < r) = false := by rw [decide_eq_false_iff_not]; omega
                              clear hrl
                              go_wp2
                              go_meet
                              case rel => exact ⟨rfl, HKh⟩
                            · go_wp2
                              go_meet
                              case rel => exact ⟨rfl, HKh⟩
                        case rest =>
                          as_aux_lemma =>
                            obtain ⟨rfl, HKi⟩ := hcut
                            clear HKh
                            go_wp2
                            go_roundw
                            case rel => exact ⟨s + 1, c2, by omega, by go_num, Lib.hid (by have h1 := HC.out; have h2 := HIN.out.2.2.2.2; omega), Lib.hid (HKi.out.less (fun _ h => h) (List.nil_sublist _) (List.Sublist.refl _))⟩
                            case measure => simp [intOf]; omega
            · have hse : ¬ ((s : Int) < 5) := by omega
              go_wp2_with fail
              refine (awake_any _).mono ?_
              rintro e wz ⟨rfl, hb⟩
              have HB := Lib.hid (HK.out.b.trans (hb.mono HK.out.b.size))
              clear hb
              go_wp2
              go_ret
              exact ⟨rfl, HB.out⟩
end Go.Proofs.Ytobmhamdkngehaa
