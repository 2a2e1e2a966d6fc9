/-
  Parts of the proof, in the order in which they build: Sure.
-/
import Derived.Deep.CutRange
import Derived.BigQuiet
import Derived.Test.YtdgibmgifgdpbaaH16
import Derived.Test.YtdgibmgifgdpbaaH15
import Derived.Test.YtdgibmgifgdpbaaH14
import Derived.Test.YtdgibmgifgdpbaaG16
set_option linter.unusedVariables false
set_option linter.unusedSimpArgs false
namespace Go.Proofs.Ytdgibmgifgdpbaa
open Go.RowKit Go.Shelf
open Lim

set_option maxRecDepth 20000 in
set_option maxHeartbeats 8000000 in
theorem sure_any {B : Nat} {nv tv0 : Value} {ns ts : List Int} {w : World} (hB : B ≤ w.heap.size) (hn : RS B w nv ns.length (u8s ns)) (hnu : ∀ x ∈ ns, 0 ≤ x ∧ x ≤ 255) (ht : RS B w tv0 ts.length (u8s ts)) (htu : ∀ x ∈ ts, 0 ≤ x ∧ x ≤ 255) :
    Calls Try.prog 6 #[nv, tv0] w fun e w' => e = .returned (.bool true) ∧ Below w.heap.size w w' := by
  have HA := Lib.hid (And.intro hB (And.intro hn (And.intro hnu (And.intro ht htu))))
  obtain ⟨na, nc, rfl, -⟩ := hn
  obtain ⟨ua, uc, rfl, -⟩ := ht
  clear hB hnu htu
  go_enter Try.func6, Try.ntmps6
  go_wp2_with fail
  refine (of_dk HA.out.1 HA.out.2.1 HA.out.2.2.1).mono ?_
  rintro e w1 ⟨rfl, hd0, hb1, hs1⟩
  have HD0 := Lib.hid (And.intro hd0 (And.intro hb1 hs1))
  clear hd0 hb1 hs1
  go_wp2_with fail
  refine (of_dk (B := B) (by have h1 := HA.out.1; have h2 := HD0.out.2.1.size; omega) (HA.out.2.2.2.1.below (HD0.out.2.1.mono HA.out.1)) HA.out.2.2.2.2).mono ?_
  rintro e w2 ⟨rfl, hd1, hb2, hs2⟩
  have HD1 := Lib.hid (And.intro hd1 (And.intro hb2 hs2))
  clear hd1 hb2 hs2
  go_wp2_with fail
  refine (made_any (d := w.heap.size) (c0 := 0) ((HD0.out.1.below HD1.out.2.1).deck (n := 0) (by omega)) (by omega) (by omega) (by omega)).mono ?_
  rintro e w3 ⟨m, rows, hv, sv, tv, hs, ss, T, c', rfl, hM, -, -, hgr, o1, o2, o3⟩
  have HM := Lib.hid hM
  have HO : Hid (openErr (m : Int) hs ss = 0) := Lib.hid (hM.right (by omega) (by omega))
  have HLN := Lib.hid (hM.lens (by omega) (by omega))
  obtain ⟨d1, hd1e⟩ : ∃ d1, d1 = w1.heap.size := ⟨_, rfl⟩
  obtain ⟨S, hSe⟩ : ∃ S, S = w2.heap.size := ⟨_, rfl⟩
  have HK0 : Hid (Kept w S d1 0 [rwI tv T, rwI sv ss, rwH hv hs] [] w3) := Lib.hid (by
    have h0 := HA.out.1
    have h1 := HD0.out.2.1.size
    have h2 := HD0.out.2.2
    have h3 := HD1.out.2.2
    have h4 := hgr.size
    rw [hd1e, hSe]
    refine ⟨below_grown (HD0.out.2.1.trans (HD1.out.2.1.mono h1)) hgr (by omega) (fun r e => by cases e; exact Nat.le_refl _), ⟨h1, by omega, h4⟩, (HD1.out.1.other (HA.out.2.2.2.1.below ((HD0.out.2.1.trans (HD1.out.2.1.mono h1)).mono h0)) h0 (by omega) (by omega) hgr).deck (n := 0) (by omega), ?_, fun p hp => by cases hp⟩
    intro r hr
    simp only [List.mem_cons, List.not_mem_nil, or_false] at hr
    rcases hr with rfl | rfl | rfl
    · exact o3
    · exact o2
    · exact o1)
  obtain ⟨ha, hcap, rfl⟩ : ∃ g cap, hv = .slice (some ⟨g, 0, none⟩) hs.length cap := form_pos (r := rwH hv hs) o1 (show 0 < hs.length by have := HLN.out; omega)
  obtain ⟨sa, scap, rfl⟩ : ∃ g cap, sv = .slice (some ⟨g, 0, none⟩) ss.length cap := form_pos (r := rwI sv ss) o2 (show 0 < ss.length by have := HLN.out; omega)
  obtain ⟨ta, tcap, rfl⟩ : ∃ g cap, tv = .slice (some ⟨g, 0, none⟩) T.length cap := form_pos (r := rwI tv T) o3 (show 0 < T.length by have := HLN.out; omega)
  simp only [← hd1e]
  clear hM hgr o1 o2 o3 hd1e hSe HD0 HD1 HA
  go_wp2_with fail
  have HK1 := Lib.hid (HK0.out.lay (.cells #[.int .i64 m, .slice (some ⟨ha, 0, none⟩) hs.length hcap, .slice (some ⟨sa, 0, none⟩) ss.length scap] 25))
  obtain ⟨q, hqe⟩ : ∃ q, q = w3.heap.size := ⟨_, rfl⟩
  simp only [← hqe] at HK1 ⊢
  generalize w3.alloc (.cells #[.int .i64 m, .slice (some ⟨ha, 0, none⟩) hs.length hcap, .slice (some ⟨sa, 0, none⟩) ss.length scap] 25) = w4 at HK1 ⊢
  clear HK0 hqe
  obtain ⟨b0, b1, b2⟩ := HK1.out.box3 (q := q) (a := .int .i64 m) (b := .slice (some ⟨ha, 0, none⟩) hs.length hcap) (e := .slice (some ⟨sa, 0, none⟩) ss.length scap) (t := 25) (by simp)
  refine (Sides_any (B := w4.heap.size) (Nat.le_refl _) (HK1.out.rsH (v := .slice (some ⟨ha, 0, none⟩) hs.length hcap) (hs := hs) (by simp)) (HK1.out.rsI (v := .slice (some ⟨sa, 0, none⟩) ss.length scap) (l := ss) (by simp))).mono ?_
  rintro e w5 ⟨v9, er, sl, rfl, hb, hans, ho⟩
  obtain ⟨rfl, hsl, hsll⟩ := sides_ok HO.out hans
  have HK2 := Lib.hid ((HK1.out.grow hb).addR (r := rwS v9 sl) HK1.out.o.2.2 ho)
  obtain ⟨a9, c9, rfl⟩ : ∃ g cap, v9 = .slice (some ⟨g, 0, none⟩) sl.length cap := form_pos (r := rwS v9 sl) ho (show 0 < sl.length by have := HLN.out; omega)
  have HSL := Lib.hid (And.intro hsl hsll)
  clear hb hans ho hsl hsll HK1 b0 b1 b2
  obtain ⟨b0, b1, b2⟩ := HK2.out.box3 (q := q) (a := .int .i64 m) (b := .slice (some ⟨ha, 0, none⟩) hs.length hcap) (e := .slice (some ⟨sa, 0, none⟩) ss.length scap) (t := 25) (by simp)
  go_wp2_with fail
  refine (Doubt_any (B := w5.heap.size) (Nat.le_refl _) (HK2.out.rsH (v := .slice (some ⟨ha, 0, none⟩) hs.length hcap) (hs := hs) (by simp)) (HK2.out.rsI (v := .slice (some ⟨sa, 0, none⟩) ss.length scap) (l := ss) (by simp))).mono ?_
  rintro e w6 ⟨v11, er, L0, rfl, hb, hans, ho⟩
  obtain ⟨rfl, rfl⟩ := doubt_ok HO.out HSL.out.1 hans
  have HK3 := Lib.hid ((HK2.out.grow hb).addR (r := rwN v11 (doubtTo sl sl.length)) HK2.out.o.2.2 ho)
  obtain ⟨a11, c11, rfl⟩ : ∃ a cap, v11 = .slice a (doubtTo sl sl.length).length cap := row_form (r := rwN v11 (doubtTo sl sl.length)) ho
  clear hb hans ho HK2 b0 b1 b2
  obtain ⟨b0, b1, b2⟩ := HK3.out.box3 (q := q) (a := .int .i64 m) (b := .slice (some ⟨ha, 0, none⟩) hs.length hcap) (e := .slice (some ⟨sa, 0, none⟩) ss.length scap) (t := 25) (by simp)
  go_wp2_with fail
  refine (Saddle_any (B := w6.heap.size) (Nat.le_refl _) (HK3.out.rsH (v := .slice (some ⟨ha, 0, none⟩) hs.length hcap) (hs := hs) (by simp)) (HK3.out.rsI (v := .slice (some ⟨sa, 0, none⟩) ss.length scap) (l := ss) (by simp))).mono ?_
  rintro e w7 ⟨x, y, er, rfl, hb, hans⟩
  have HSD := Lib.hid hans
  have HK3b := Lib.hid (HK3.out.grow hb)
  clear hb hans HK3 b0 b1 b2
  go_upto_region 6 with (fail)
  have HK4 := Lib.hid (HK3b.out.lay (.cells #[.int .i64 x, .int .i64 y] 54))
  obtain ⟨q13, hqe⟩ : ∃ q, q = w7.heap.size := ⟨_, rfl⟩
  simp only [← hqe] at HK4 ⊢
  generalize w7.alloc (.cells #[.int .i64 x, .int .i64 y] 54) = w8 at HK4 ⊢
  clear HK3b hqe
  obtain ⟨b0, b1, b2⟩ := HK4.out.box3 (q := q) (a := .int .i64 m) (b := .slice (some ⟨ha, 0, none⟩) hs.length hcap) (e := .slice (some ⟨sa, 0, none⟩) ss.length scap) (t := 25) (by simp)
  go_wp2_with fail
  refine (Saddles_any (B := w8.heap.size) (Nat.le_refl _) (HK4.out.rsH (v := .slice (some ⟨ha, 0, none⟩) hs.length hcap) (hs := hs) (by simp)) (HK4.out.rsI (v := .slice (some ⟨sa, 0, none⟩) ss.length scap) (l := ss) (by simp))).mono ?_
  rintro e w9 ⟨v15, x', y', er', L, rfl, hb, hans, ho, hn0, hn1⟩
  obtain ⟨rfl, rfl, rfl⟩ := HSD.out.unique hans
  have HK5 := Lib.hid ((HK4.out.grow hb).addR (r := rwN v15 L) HK4.out.o.2.2 ho)
  obtain ⟨a15, c15, rfl⟩ : ∃ a cap, v15 = .slice a L.length cap := row_form (r := rwN v15 L) ho
  have HCL : Hid (CanList m hs ss y er L) := Lib.hid ⟨hn0, hn1⟩
  clear hb hans ho hn0 hn1 HK4 b0 b1 b2
  obtain ⟨b0, b1, b2⟩ := HK5.out.box3 (q := q) (a := .int .i64 m) (b := .slice (some ⟨ha, 0, none⟩) hs.length hcap) (e := .slice (some ⟨sa, 0, none⟩) ss.length scap) (t := 25) (by simp)
  have hne : (er != er) = false := by simp
  have hls : ((sl.length : Nat) : Int) = ((ss.length : Nat) : Int) := by rw [HSL.out.2]
  go_upto_region 7 with (fail)
  go_cut [97] from 71 to 96 (fun s97 wx => s97 = .bool false ∧ wx = w9)
  case first =>
    as_aux_lemma =>
      rcases saddle_errs HO.out HSD.out with rfl | rfl
      · go_wp2
        go_meet
        case rel => exact ⟨rfl, rfl⟩
      · go_wp2
        go_meet
        case rel => exact ⟨rfl, rfl⟩
  case rest =>
    as_aux_lemma =>
      obtain ⟨rfl, rfl⟩ := hcut
      clear b0 b1 b2 hne hls
      go_wp2_with fail
      go_loopw [98] (fun i W => ∃ k c : Nat, k ≤ 8 ∧ i = .int .i64 k ∧ Hid (c ≤ 201 * k) ∧ Hid (Kept w S d1 c [rwN (.slice a15 L.length c15) L, rwN (.slice a11 (doubtTo sl sl.length).length c11) (doubtTo sl sl.length), rwS (.slice (some ⟨a9, 0, none⟩) sl.length c9) sl, rwI (.slice (some ⟨ta, 0, none⟩) T.length tcap) T, rwI (.slice (some ⟨sa, 0, none⟩) ss.length scap) ss, rwH (.slice (some ⟨ha, 0, none⟩) hs.length hcap) hs] [(q13, Obj.cells #[.int .i64 x, .int .i64 y] 54 (0, 0)), (q, Obj.cells #[.int .i64 m, .slice (some ⟨ha, 0, none⟩) hs.length hcap, .slice (some ⟨sa, 0, none⟩) ss.length scap] 25 (0, 0))] W)) (fun i _ => 8 - (intOf i).toNat)
      case atStart => exact ⟨0, 0, by omega, rfl, Lib.hid (by omega), HK5⟩
      case round =>
        as_aux_lemma =>
          clear HK5
          obtain ⟨k, c, hk, rfl, HC, HK⟩ := hrel
          by_cases hlt : k < 8
          · obtain ⟨b0, b1, b2⟩ := HK.out.box3 (q := q) (a := .int .i64 m) (b := .slice (some ⟨ha, 0, none⟩) hs.length hcap) (e := .slice (some ⟨sa, 0, none⟩) ss.length scap) (t := 25) (by simp)
            have hk8 : (k : Int) < 8 := by omega
            go_upto_if 103 with (fail)
            go_cut [18] from 102 to 106 (fun s18 wx => ∃ (a18 c18 c1 : Nat) (T1 : List Int), s18 = .slice (some ⟨a18, 0, none⟩) T1.length c18 ∧ Hid (InSp hs T1) ∧ Hid (c1 ≤ 201 * (k + 1)) ∧ Hid (Kept w S d1 c1 (rwI (.slice (some ⟨a18, 0, none⟩) T1.length c18) T1 :: [rwN (.slice a15 L.length c15) L, rwN (.slice a11 (doubtTo sl sl.length).length c11) (doubtTo sl sl.length), rwS (.slice (some ⟨a9, 0, none⟩) sl.length c9) sl, rwI (.slice (some ⟨ta, 0, none⟩) T.length tcap) T, rwI (.slice (some ⟨sa, 0, none⟩) ss.length scap) ss, rwH (.slice (some ⟨ha, 0, none⟩) hs.length hcap) hs]) [(q13, Obj.cells #[.int .i64 x, .int .i64 y] 54 (0, 0)), (q, Obj.cells #[.int .i64 m, .slice (some ⟨ha, 0, none⟩) hs.length hcap, .slice (some ⟨sa, 0, none⟩) ss.length scap] 25 (0, 0))] wx))
            case first =>
              as_aux_lemma =>
                by_cases hk0 : k = 0
                · have d0 : ¬ ((0 : Int) < (k : Int)) := by omega
                  clear hk0
                  go_wp2
                  go_meet
                  case rel => exact ⟨ta, tcap, c, T, rfl, Lib.hid HM.out.insp, Lib.hid (by have := HC.out; omega), Lib.hid (HK.out.less (fun r hr => by
                      rcases List.mem_cons.1 hr with rfl | hr
                      · simp
                      · exact hr) (fun p hp => hp))⟩
                · have d0 : (0 : Int) < (k : Int) := by omega
                  clear hk0
                  go_wp2_with fail
                  refine (drawn_any (S := S) HK.out.dk (by have := HC.out; omega) ⟨HK.out.o.2.1, HK.out.o.2.2⟩ (HK.out.r (rwH (.slice (some ⟨ha, 0, none⟩) hs.length hcap) hs) (by simp)) rfl (by have := HLN.out; omega) (by have := HLN.out; omega) (fun c hc => goodSpan (openErr_zero HO.out).2.2.1 hc)).mono ?_
                  rintro e w11 ⟨tv2, T2, c2, rfl, hT2, ho, hdk, hc2, hgr⟩
                  have HK' := Lib.hid ((HK.out.draw hgr hdk).addR (r := rwI tv2 T2) HK.out.o.2.2 ho)
                  have HT2 := Lib.hid (And.intro hT2 hc2)
                  obtain ⟨a2, c2', rfl⟩ : ∃ g cap, tv2 = .slice (some ⟨g, 0, none⟩) T2.length cap := form_pos (r := rwI tv2 T2) ho (show 0 < T2.length by have := HLN.out; have := hT2.len; omega)
                  clear hgr hdk ho hT2 hc2 HK b0 b1 b2
                  go_wp2
                  go_meet
                  case rel => exact ⟨a2, c2', c2, T2, rfl, Lib.hid HT2.out.1, Lib.hid (by have h1 := HT2.out.2; have h2 := HC.out; have h3 := HLN.out; omega), HK'⟩
            case rest =>
              as_aux_lemma =>
                obtain ⟨a18, c18, c1, T1, rfl, HT1, HC1, HK1⟩ := hcut
                clear HK b0 b1 b2
                obtain ⟨b0, b1, b2⟩ := HK1.out.box3 (q := q) (a := .int .i64 m) (b := .slice (some ⟨ha, 0, none⟩) hs.length hcap) (e := .slice (some ⟨sa, 0, none⟩) ss.length scap) (t := 25) (by simp)
                go_wp2_with fail
                refine (Drains_any (B := wc.heap.size) (Nat.le_refl _) (HK1.out.rsH (v := .slice (some ⟨ha, 0, none⟩) hs.length hcap) (hs := hs) (by simp)) (HK1.out.rsI (v := .slice (some ⟨sa, 0, none⟩) ss.length scap) (l := ss) (by simp)) (HK1.out.rsI (v := .slice (some ⟨a18, 0, none⟩) T1.length c18) (l := T1) (by simp))).mono ?_
                rintro e w12 ⟨v19, er1, l, rfl, hb, hans, ho⟩
                obtain ⟨rfl, hll, hsd⟩ := sure_drains HO.out HT1.out hans HSL.out.1
                have HK2 := Lib.hid ((HK1.out.grow hb).addR (r := rwD v19 l) HK1.out.o.2.2 ho)
                obtain ⟨a19, c19, rfl⟩ : ∃ g cap, v19 = .slice (some ⟨g, 0, none⟩) l.length cap := form_pos (r := rwD v19 l) ho (show 0 < l.length by have := HLN.out; omega)
                have HSR := Lib.hid (And.intro hll hsd)
                clear hb hans ho hll hsd HK1 b0 b1 b2
                obtain ⟨b0, b1, b2⟩ := HK2.out.box3 (q := q) (a := .int .i64 m) (b := .slice (some ⟨ha, 0, none⟩) hs.length hcap) (e := .slice (some ⟨sa, 0, none⟩) ss.length scap) (t := 25) (by simp)
                go_wp2_with fail
                refine (just_any (B := w12.heap.size) (Nat.le_refl _) (HK2.out.rsH (v := .slice (some ⟨ha, 0, none⟩) hs.length hcap) (hs := hs) (by simp)) (HK2.out.rsI (v := .slice (some ⟨sa, 0, none⟩) ss.length scap) (l := ss) (by simp)) (HK2.out.rsI (v := .slice (some ⟨a18, 0, none⟩) T1.length c18) (l := T1) (by simp)) (by have := HLN.out; omega) (by have := HLN.out; omega) (by have := HLN.out; omega) HT1.out.len).mono ?_
                rintro e w13 ⟨hv2, sv2, rfl, o1, o2, hb⟩
                obtain ⟨H, hH⟩ : ∃ H, H = justTo hs T1 hs.length := ⟨_, rfl⟩
                have hHl : H.length = hs.length := by rw [hH, justTo_len]
                rw [← hH, ← hHl] at o1
                have HW : Hid (Own hs T1 H) := Lib.hid (by rw [hH]; exact own_just hs T1)
                have HHl := Lib.hid hHl
                have HK3 := Lib.hid (((HK2.out.grow hb).addR (r := rwI sv2 ss) HK2.out.o.2.2 o2).addR (r := rwH hv2 H) HK2.out.o.2.2 o1)
                obtain ⟨h21, k21, rfl⟩ : ∃ g cap, hv2 = .slice (some ⟨g, 0, none⟩) H.length cap := form_pos (r := rwH hv2 H) o1 (show 0 < H.length by have := HLN.out; omega)
                obtain ⟨s21, l21, rfl⟩ : ∃ g cap, sv2 = .slice (some ⟨g, 0, none⟩) ss.length cap := form_pos (r := rwI sv2 ss) o2 (show 0 < ss.length by have := HLN.out; omega)
                clear hb o1 o2 hH hHl HK2 b0 b1 b2
                go_upto_region 17 with (fail)
                have HK4 := Lib.hid (HK3.out.lay (.cells #[.int .i64 m, .slice (some ⟨h21, 0, none⟩) H.length k21, .slice (some ⟨s21, 0, none⟩) ss.length l21] 25))
                obtain ⟨q21, hqe⟩ : ∃ q, q = w13.heap.size := ⟨_, rfl⟩
                simp only [← hqe] at HK4 ⊢
                generalize w13.alloc (.cells #[.int .i64 m, .slice (some ⟨h21, 0, none⟩) H.length k21, .slice (some ⟨s21, 0, none⟩) ss.length l21] 25) = w14 at HK4 ⊢
                clear HK3 hqe
                obtain ⟨o0, o1, o2⟩ := HK4.out.box3 (q := q21) (a := .int .i64 m) (b := .slice (some ⟨h21, 0, none⟩) H.length k21) (e := .slice (some ⟨s21, 0, none⟩) ss.length l21) (t := 25) (by simp)
                go_wp2_with fail
                refine (Saddle_any (B := w14.heap.size) (Nat.le_refl _) (HK4.out.rsH (v := .slice (some ⟨h21, 0, none⟩) H.length k21) (hs := H) (by simp)) (HK4.out.rsI (v := .slice (some ⟨s21, 0, none⟩) ss.length l21) (l := ss) (by simp))).mono ?_
                rintro e w15 ⟨xa, xb, er2, rfl, hb, hans⟩
                obtain ⟨her, -, hf⟩ := sure_saddle HO.out HT1.out HW.out HSD.out hans
                subst her
                have HS2 := Lib.hid hans
                have HSF := Lib.hid hf
                have HK5 := Lib.hid (HK4.out.grow hb)
                clear hb hans hf HK4 o0 o1 o2
                go_upto_region 18 with (fail)
                have HK6 := Lib.hid (HK5.out.lay (.cells #[.int .i64 xa, .int .i64 xb] 54))
                obtain ⟨q22, hqe⟩ : ∃ q, q = w15.heap.size := ⟨_, rfl⟩
                simp only [← hqe] at HK6 ⊢
                generalize w15.alloc (.cells #[.int .i64 xa, .int .i64 xb] 54) = w16 at HK6 ⊢
                clear HK5 hqe
                obtain ⟨o0, o1, o2⟩ := HK6.out.box3 (q := q21) (a := .int .i64 m) (b := .slice (some ⟨h21, 0, none⟩) H.length k21) (e := .slice (some ⟨s21, 0, none⟩) ss.length l21) (t := 25) (by simp)
                go_wp2_with fail
                refine (Saddles_any (B := w16.heap.size) (Nat.le_refl _) (HK6.out.rsH (v := .slice (some ⟨h21, 0, none⟩) H.length k21) (hs := H) (by simp)) (HK6.out.rsI (v := .slice (some ⟨s21, 0, none⟩) ss.length l21) (l := ss) (by simp))).mono ?_
                rintro e w17 ⟨v24, x2', y2', er3, L2, rfl, hb, hans, ho, hn0, hn1⟩
                obtain ⟨rfl, rfl, rfl⟩ := HS2.out.unique hans
                have HK7 := Lib.hid ((HK6.out.grow hb).addR (r := rwN v24 L2) HK6.out.o.2.2 ho)
                obtain ⟨a24, c24, rfl⟩ : ∃ a cap, v24 = .slice a L2.length cap := row_form (r := rwN v24 L2) ho
                have HCL2 : Hid (CanList m H ss xb er2 L2) := Lib.hid ⟨hn0, hn1⟩
                clear hb hans ho hn0 hn1 HK6 o0 o1 o2
                have hne : (er2 != er2) = false := by simp
                have hls : ((l.length : Nat) : Int) = ((sl.length : Nat) : Int) := by rw [HSL.out.2, HSR.out.1]
                go_upto_region 19 with (fail)
                obtain ⟨e0, e1⟩ := HK7.out.box2 (q := q22) (a := .int .i64 xa) (b := .int .i64 xb) (t := 54) (by simp)
                obtain ⟨f0, f1⟩ := HK7.out.box2 (q := q13) (a := .int .i64 x) (b := .int .i64 y) (t := 54) (by simp)
                go_cut [174] from 126 to 173 (fun s174 wx => s174 = .bool false ∧ wx = w17)
                case first =>
                  as_aux_lemma =>
                    rcases saddle_errs HO.out HSD.out with rfl | rfl
                    · obtain ⟨hxe, hx1, hx2, -⟩ := HSF.out rfl
                      subst hxe
                      have dd1 : decide (xb < x) = false := by rw [decide_eq_false_iff_not]; omega
                      have d2 : decide (y < xb) = false := by rw [decide_eq_false_iff_not]; omega
                      have d3 : (((L2.length : Nat) : Int) == 0) = false := by
                        have h := (sure_can HO.out HT1.out HW.out HSD.out HS2.out HCL.out HCL2.out).1
                        rw [beq_eq_false_iff_ne]
                        intro e
                        exact h (List.length_eq_zero_iff.1 (by omega))
                      clear hx1 hx2
                      go_wp2
                      go_meet
                      case rel => exact ⟨rfl, rfl⟩
                    · go_wp2
                      go_meet
                      case rel => exact ⟨rfl, rfl⟩
                case rest =>
                  as_aux_lemma =>
                    obtain ⟨rfl, rfl⟩ := hcut
                    clear e0 e1 f0 f1 hne hls
                    go_wp2_with fail
                    go_loopw [177] (fun i W => ∃ j : Nat, j ≤ l.length ∧ i = .int .i64 j ∧ Hid (Kept w S d1 c1 [rwN (.slice a24 L2.length c24) L2, rwH (.slice (some ⟨h21, 0, none⟩) H.length k21) H, rwI (.slice (some ⟨s21, 0, none⟩) ss.length l21) ss, rwD (.slice (some ⟨a19, 0, none⟩) l.length c19) l, rwI (.slice (some ⟨a18, 0, none⟩) T1.length c18) T1, rwN (.slice a15 L.length c15) L, rwN (.slice a11 (doubtTo sl sl.length).length c11) (doubtTo sl sl.length), rwS (.slice (some ⟨a9, 0, none⟩) sl.length c9) sl, rwI (.slice (some ⟨ta, 0, none⟩) T.length tcap) T, rwI (.slice (some ⟨sa, 0, none⟩) ss.length scap) ss, rwH (.slice (some ⟨ha, 0, none⟩) hs.length hcap) hs] [(q22, Obj.cells #[.int .i64 xa, .int .i64 xb] 54 (0, 0)), (q21, Obj.cells #[.int .i64 m, .slice (some ⟨h21, 0, none⟩) H.length k21, .slice (some ⟨s21, 0, none⟩) ss.length l21] 25 (0, 0)), (q13, Obj.cells #[.int .i64 x, .int .i64 y] 54 (0, 0)), (q, Obj.cells #[.int .i64 m, .slice (some ⟨ha, 0, none⟩) hs.length hcap, .slice (some ⟨sa, 0, none⟩) ss.length scap] 25 (0, 0))] W)) (fun i _ => l.length - (intOf i).toNat)
                    case atStart => exact ⟨0, Nat.zero_le _, rfl, HK7⟩
                    case round =>
                      as_aux_lemma =>
                        clear HK7
                        obtain ⟨j, hj, rfl, HK⟩ := hrel
                        by_cases hlj : j < l.length
                        · have hjs : j < sl.length := by have h1 := HSL.out.2; have h2 := HSR.out.1; omega
                          have q0 := HK.out.cellD (g := a19) (cap := c19) (l := l) (by simp) hlj
                          obtain ⟨q1, q2, q3⟩ := HK.out.cellS (g := a9) (cap := c9) (l := sl) (by simp) hjs
                          obtain ⟨i1, i2, i3, i4⟩ := HSR.out.2 j (by have h2 := HSR.out.1; omega)
                          obtain ⟨wj, hwj⟩ : ∃ wj, wj = l.getD j 0 := ⟨_, rfl⟩
                          obtain ⟨⟨x1, x2, x3⟩, hxj⟩ : ∃ xj, xj = sl.getD j (false, false, false) := ⟨_, rfl⟩
                          rw [← hwj] at q0 i1 i2 i3 i4
                          rw [← hxj] at q1 q2 q3 i1 i2 i3 i4
                          dsimp only at q1 q2 q3 i1 i2 i3 i4
                          have HI := Lib.hid (And.intro i1 (And.intro i2 (And.intro i3 i4)))
                          have hi1 : (j : Int) < (l.length : Int) := by omega
                          have hi2 : (j : Int) < (sl.length : Int) := by omega
                          have hi3 : (j : Int) < 1000 := by have h2 := HSR.out.1; have h3 := HLN.out; omega
                          clear hwj hxj i1 i2 i3 i4
                          go_upto_region 25 with (fail)
                          clear q0 q1 q2 q3
                          have HKa := Lib.hid (HK.out.lay (.cells #[.bool x1, .bool x2, .bool x3] 41))
                          obtain ⟨q28, hqe⟩ : ∃ q, q = wr.heap.size := ⟨_, rfl⟩
                          simp only [← hqe] at HKa ⊢
                          generalize wr.alloc (.cells #[.bool x1, .bool x2, .bool x3] 41) = wa at HKa ⊢
                          clear HK hqe
                          obtain ⟨e0, e1, e2⟩ := HKa.out.box3 (q := q28) (a := .bool x1) (b := .bool x2) (e := .bool x3) (t := 41) (by simp)
                          go_cut [219] from 186 to 218 (fun s219 wx => s219 = .bool false ∧ wx = wa)
                          case first =>
                            as_aux_lemma =>
                              by_cases h1 : wj = 1
                              · obtain rfl := HI.out.1 h1
                                subst h1
                                go_wp2
                                go_meet
                                case rel => exact ⟨rfl, rfl⟩
                              · have dd1 : (wj == 1) = false := by rw [beq_eq_false_iff_ne]; exact h1
                                clear h1
                                by_cases h2 : wj = 2
                                · obtain rfl := HI.out.2.1 h2
                                  subst h2
                                  go_wp2
                                  go_meet
                                  case rel => exact ⟨rfl, rfl⟩
                                · have d2 : (wj == 2) = false := by rw [beq_eq_false_iff_ne]; exact h2
                                  clear h2
                                  by_cases h3 : wj = 3
                                  · obtain rfl := HI.out.2.2.1 h3
                                    subst h3
                                    go_wp2
                                    go_meet
                                    case rel => exact ⟨rfl, rfl⟩
                                  · have d3 : (wj == 3) = false := by rw [beq_eq_false_iff_ne]; exact h3
                                    clear h3
                                    by_cases h0 : wj = 0
                                    · have h4 := HI.out.2.2.2 h0
                                      simp only [Prod.mk.injEq] at h4
                                      obtain ⟨rfl, rfl, rfl⟩ := h4
                                      subst h0
                                      go_wp2
                                      go_meet
                                      case rel => exact ⟨rfl, rfl⟩
                                    · have d4 : (wj == 0) = false := by rw [beq_eq_false_iff_ne]; exact h0
                                      clear h0
                                      go_wp2
                                      go_meet
                                      case rel => exact ⟨rfl, rfl⟩
                          case rest =>
                            as_aux_lemma =>
                              obtain ⟨rfl, rfl⟩ := hcut
                              clear e0 e1 e2
                              go_wp2
                              go_roundw
                              case rel => exact ⟨j + 1, by omega, by go_num, Lib.hid (HKa.out.less (fun r h => h) (fun p h => .tail _ h))⟩
                              case measure => simp [intOf]; omega
                        · have hjl : j = l.length := by omega
                          subst hjl
                          go_wp2_with fail
                          go_loopw [223] (fun i W => ∃ j : Nat, j ≤ L2.length ∧ i = .int .i64 j ∧ Hid (Kept w S d1 c1 [rwN (.slice a24 L2.length c24) L2, rwH (.slice (some ⟨h21, 0, none⟩) H.length k21) H, rwI (.slice (some ⟨s21, 0, none⟩) ss.length l21) ss, rwD (.slice (some ⟨a19, 0, none⟩) l.length c19) l, rwI (.slice (some ⟨a18, 0, none⟩) T1.length c18) T1, rwN (.slice a15 L.length c15) L, rwN (.slice a11 (doubtTo sl sl.length).length c11) (doubtTo sl sl.length), rwS (.slice (some ⟨a9, 0, none⟩) sl.length c9) sl, rwI (.slice (some ⟨ta, 0, none⟩) T.length tcap) T, rwI (.slice (some ⟨sa, 0, none⟩) ss.length scap) ss, rwH (.slice (some ⟨ha, 0, none⟩) hs.length hcap) hs] [(q22, Obj.cells #[.int .i64 xa, .int .i64 xb] 54 (0, 0)), (q21, Obj.cells #[.int .i64 m, .slice (some ⟨h21, 0, none⟩) H.length k21, .slice (some ⟨s21, 0, none⟩) ss.length l21] 25 (0, 0)), (q13, Obj.cells #[.int .i64 x, .int .i64 y] 54 (0, 0)), (q, Obj.cells #[.int .i64 m, .slice (some ⟨ha, 0, none⟩) hs.length hcap, .slice (some ⟨sa, 0, none⟩) ss.length scap] 25 (0, 0))] W)) (fun i _ => L2.length - (intOf i).toNat)
                          case atStart => exact ⟨0, Nat.zero_le _, rfl, HK⟩
                          case round =>
                            as_aux_lemma =>
                              clear HK
                              obtain ⟨j, hj, rfl, HK⟩ := hrel
                              by_cases hlj : j < L2.length
                              · obtain ⟨g24, cc, e24, -⟩ := row_at (r := rwN (.slice a24 L2.length c24) L2) (HK.out.r _ (by simp)) (show 0 < L2.length from by omega)
                                obtain rfl : a24 = some ⟨g24, 0, none⟩ := by
                                  have h := e24
                                  simp only [rwN, Value.slice.injEq] at h
                                  exact h.1
                                clear e24
                                have q0 := HK.out.cellN (g := g24) (cap := c24) (l := L2) (by simp) hlj
                                obtain ⟨cj, hcj⟩ : ∃ cj, cj = L2.getD j 0 := ⟨_, rfl⟩
                                rw [← hcj] at q0
                                have hmem : decide ((cj : Int) ∈ L.map Int.ofNat) = true := by
                                  have he : er2 = 0 := by
                                    apply Classical.byContradiction
                                    intro h
                                    have := HCL2.out.1 h
                                    rw [this] at hlj
                                    exact absurd hlj (Nat.not_lt_zero _)
                                  subst he
                                  have h := (sure_can HO.out HT1.out HW.out HSD.out HS2.out HCL.out HCL2.out).2 cj (by
                                    rw [hcj, List.getD_eq_getElem?_getD, List.getElem?_eq_getElem hlj]
                                    exact List.getElem_mem hlj)
                                  rw [decide_eq_true_eq]
                                  exact List.mem_map.2 ⟨cj, h, rfl⟩
                                have HMEM := Lib.hid hmem
                                have hi1 : (j : Int) < (L2.length : Int) := by omega
                                have hi3 : (j : Int) < 1000 := by have h2 := HCL2.out.len; have h3 := HLN.out; omega
                                clear hcj hmem
                                go_wp2_with fail
                                refine (contains_any (B := wr.heap.size) (xs := L.map Int.ofNat) (cj : Int) (by have h2 := HCL.out.len; have h3 := HLN.out; rw [List.length_map]; omega) (HK.out.rsN (v := .slice a15 L.length c15) (l := L) (by simp))).mono ?_
                                rintro e w' ⟨rfl, rfl⟩
                                rw [HMEM.out]
                                clear q0
                                go_wp2
                                go_roundw
                                case rel => exact ⟨j + 1, by omega, by go_num, HK⟩
                                case measure => simp [intOf]; omega
                              · have hjl : j = L2.length := by omega
                                subst hjl
                                go_wp2_with fail
                                go_loopw [31] (fun i W => ∃ s : Nat, 1 ≤ s ∧ s ≤ 3 ∧ i = .int .i64 s ∧ Hid (Kept w S d1 c1 [rwN (.slice a24 L2.length c24) L2, rwH (.slice (some ⟨h21, 0, none⟩) H.length k21) H, rwI (.slice (some ⟨s21, 0, none⟩) ss.length l21) ss, rwD (.slice (some ⟨a19, 0, none⟩) l.length c19) l, rwI (.slice (some ⟨a18, 0, none⟩) T1.length c18) T1, rwN (.slice a15 L.length c15) L, rwN (.slice a11 (doubtTo sl sl.length).length c11) (doubtTo sl sl.length), rwS (.slice (some ⟨a9, 0, none⟩) sl.length c9) sl, rwI (.slice (some ⟨ta, 0, none⟩) T.length tcap) T, rwI (.slice (some ⟨sa, 0, none⟩) ss.length scap) ss, rwH (.slice (some ⟨ha, 0, none⟩) hs.length hcap) hs] [(q22, Obj.cells #[.int .i64 xa, .int .i64 xb] 54 (0, 0)), (q21, Obj.cells #[.int .i64 m, .slice (some ⟨h21, 0, none⟩) H.length k21, .slice (some ⟨s21, 0, none⟩) ss.length l21] 25 (0, 0)), (q13, Obj.cells #[.int .i64 x, .int .i64 y] 54 (0, 0)), (q, Obj.cells #[.int .i64 m, .slice (some ⟨ha, 0, none⟩) hs.length hcap, .slice (some ⟨sa, 0, none⟩) ss.length scap] 25 (0, 0))] W)) (fun i _ => 3 - (intOf i).toNat)
                                case atStart => exact ⟨1, Nat.le_refl _, by omega, rfl, HK⟩
                                case round =>
                                  as_aux_lemma =>
                                    clear HK
                                    obtain ⟨s, hs1, hs3, rfl, HK⟩ := hrel
                                    by_cases hs2 : s ≤ 2
                                    · obtain ⟨b0, b1, b2⟩ := HK.out.box3 (q := q) (a := .int .i64 m) (b := .slice (some ⟨ha, 0, none⟩) hs.length hcap) (e := .slice (some ⟨sa, 0, none⟩) ss.length scap) (t := 25) (by simp)
                                      have hs2i : (s : Int) ≤ 2 := by omega
                                      have HSS : Hid ((s : Int) = 1 ∨ (s : Int) = 2) := Lib.hid (by omega)
                                      go_wp2_with fail
                                      refine (Passes_any (B := wr.heap.size) (sea := s) (Nat.le_refl _) (HK.out.rsH (v := .slice (some ⟨ha, 0, none⟩) hs.length hcap) (hs := hs) (by simp)) (HK.out.rsI (v := .slice (some ⟨sa, 0, none⟩) ss.length scap) (l := ss) (by simp))).mono ?_
                                      rintro e w20 ⟨va, e1, la, rfl, hb, hpa, ho⟩
                                      have HKb := Lib.hid ((HK.out.grow hb).addR (r := rwH va la) HK.out.o.2.2 ho)
                                      have HPA := Lib.hid (And.intro hpa ho)
                                      clear hb hpa ho HK b0 b1 b2
                                      obtain ⟨o0, o1, o2⟩ := HKb.out.box3 (q := q21) (a := .int .i64 m) (b := .slice (some ⟨h21, 0, none⟩) H.length k21) (e := .slice (some ⟨s21, 0, none⟩) ss.length l21) (t := 25) (by simp)
                                      go_wp2_with fail
                                      refine (Passes_any (B := w20.heap.size) (sea := s) (Nat.le_refl _) (HKb.out.rsH (v := .slice (some ⟨h21, 0, none⟩) H.length k21) (hs := H) (by simp)) (HKb.out.rsI (v := .slice (some ⟨s21, 0, none⟩) ss.length l21) (l := ss) (by simp))).mono ?_
                                      rintro e w21 ⟨vb, e2, lb, rfl, hb, hpb, ho⟩
                                      obtain ⟨rfl, rfl, hla, hlb, hab⟩ := sure_pass HO.out HT1.out HW.out HSS.out HPA.out.1 hpb
                                      have HKc := Lib.hid ((HKb.out.grow hb).addR (r := rwH vb lb) HKb.out.o.2.2 ho)
                                      obtain ⟨al, lc, rfl⟩ : ∃ g cap, va = .slice (some ⟨g, 0, none⟩) la.length cap := form_pos (r := rwH va la) HPA.out.2 (show 0 < la.length by have := HLN.out; omega)
                                      obtain ⟨bl, mc, rfl⟩ : ∃ g cap, vb = .slice (some ⟨g, 0, none⟩) lb.length cap := form_pos (r := rwH vb lb) ho (show 0 < lb.length by have := HLN.out; omega)
                                      have HAB := Lib.hid (And.intro hla (And.intro hlb hab))
                                      clear hb hpb ho HKb o0 o1 o2 HPA hla hlb hab
                                      have hla1 : ((la.length : Nat) : Int) = ((l.length : Nat) : Int) := by rw [HAB.out.1, HSR.out.1]
                                      have hlb1 : ((lb.length : Nat) : Int) = ((l.length : Nat) : Int) := by rw [HAB.out.2.1, HSR.out.1]
                                      go_wp2_with fail
                                      go_loopw [270] (fun i W => ∃ j : Nat, j ≤ la.length ∧ i = .int .i64 j ∧ Hid (Kept w S d1 c1 [rwH (.slice (some ⟨bl, 0, none⟩) lb.length mc) lb, rwH (.slice (some ⟨al, 0, none⟩) la.length lc) la, rwN (.slice a24 L2.length c24) L2, rwH (.slice (some ⟨h21, 0, none⟩) H.length k21) H, rwI (.slice (some ⟨s21, 0, none⟩) ss.length l21) ss, rwD (.slice (some ⟨a19, 0, none⟩) l.length c19) l, rwI (.slice (some ⟨a18, 0, none⟩) T1.length c18) T1, rwN (.slice a15 L.length c15) L, rwN (.slice a11 (doubtTo sl sl.length).length c11) (doubtTo sl sl.length), rwS (.slice (some ⟨a9, 0, none⟩) sl.length c9) sl, rwI (.slice (some ⟨ta, 0, none⟩) T.length tcap) T, rwI (.slice (some ⟨sa, 0, none⟩) ss.length scap) ss, rwH (.slice (some ⟨ha, 0, none⟩) hs.length hcap) hs] [(q22, Obj.cells #[.int .i64 xa, .int .i64 xb] 54 (0, 0)), (q21, Obj.cells #[.int .i64 m, .slice (some ⟨h21, 0, none⟩) H.length k21, .slice (some ⟨s21, 0, none⟩) ss.length l21] 25 (0, 0)), (q13, Obj.cells #[.int .i64 x, .int .i64 y] 54 (0, 0)), (q, Obj.cells #[.int .i64 m, .slice (some ⟨ha, 0, none⟩) hs.length hcap, .slice (some ⟨sa, 0, none⟩) ss.length scap] 25 (0, 0))] W)) (fun i _ => la.length - (intOf i).toNat)
                                      case atStart => exact ⟨0, Nat.zero_le _, rfl, HKc⟩
                                      case round =>
                                        as_aux_lemma =>
                                          clear HKc
                                          obtain ⟨j, hj, rfl, HK⟩ := hrel
                                          by_cases hlj : j < la.length
                                          · have hjb : j < lb.length := by have h1 := HAB.out.1; have h2 := HAB.out.2.1; omega
                                            obtain ⟨q1, q2⟩ := HK.out.cellH (g := al) (cap := lc) (l := la) (by simp) hlj
                                            obtain ⟨q3, q4⟩ := HK.out.cellH (g := bl) (cap := mc) (l := lb) (by simp) hjb
                                            obtain ⟨i1, i2, i3⟩ := HAB.out.2.2 j (by have h1 := HAB.out.1; omega)
                                            obtain ⟨⟨y1, y2⟩, hy⟩ : ∃ yj, yj = la.getD j (0, 0) := ⟨_, rfl⟩
                                            obtain ⟨⟨z1, z2⟩, hz⟩ : ∃ zj, zj = lb.getD j (0, 0) := ⟨_, rfl⟩
                                            rw [← hy] at q1 q2 i1 i2 i3
                                            rw [← hz] at q3 q4 i1 i2 i3
                                            dsimp only at q1 q2 q3 q4 i1 i2 i3
                                            obtain ⟨zz, hzz⟩ : ∃ zz, (z1 == -1) = zz := ⟨_, rfl⟩
                                            have hyy : (y1 == -1) = zz := i3.trans hzz
                                            have d2 : decide (z1 < y1) = false := by rw [decide_eq_false_iff_not]; omega
                                            have d3 : decide (y2 < z2) = false := by rw [decide_eq_false_iff_not]; omega
                                            have hi1 : (j : Int) < (la.length : Int) := by omega
                                            have hi2 : (j : Int) < (lb.length : Int) := by omega
                                            have hi5 : j < la.length := hlj
                                            have hi3 : (j : Int) < 1000 := by have h2 := HAB.out.1; have h3 := HLN.out; omega
                                            clear hy hz i1 i2 i3
                                            go_wp2_with fail
                                            go_quiet (fail)
                                            have HK' := Lib.hid (HK.out.grow (below_drewN (Below.refl wr.heap.size wr) nq))
                                            clear HK q1 q2 q3 q4
                                            generalize wr.drewN nq = wq at HK' ⊢
                                            cases zz with
                                            | true =>
                                              go_wp2
                                              go_roundw
                                              case rel => exact ⟨j + 1, by omega, by go_num, HK'⟩
                                              case measure => simp [intOf]; omega
                                            | false =>
                                              go_wp2
                                              go_roundw
                                              case rel => exact ⟨j + 1, by omega, by go_num, HK'⟩
                                              case measure => simp [intOf]; omega
                                          · have hjl : j = la.length := by omega
                                            subst hjl
                                            go_wp2
                                            go_roundw
                                            case rel => exact ⟨s + 1, by omega, by omega, by go_num, Lib.hid (HK.out.less (fun r h => .tail _ (.tail _ h)) (fun p h => h))⟩
                                            case measure => simp [intOf]; omega
                                    · have hse : s = 3 := by omega
                                      subst hse
                                      go_wp2
                                      go_roundw
                                      case rel => exact ⟨k + 1, c1, by omega, by go_num, HC1, Lib.hid (HK.out.less (fun r h => .tail _ (.tail _ (.tail _ (.tail _ (.tail _ h))))) (fun p h => .tail _ (.tail _ h)))⟩
                                      case measure => simp [intOf]; omega
          · have hk8 : ¬ ((k : Int) < 8) := by omega
            clear hlt hk
            go_wp2_with fail
            clear hk8
            go_loopw [316] (fun i W => ∃ j : Nat, j ≤ sl.length ∧ i = .int .i64 j ∧ Hid (Kept w S d1 c [rwN (.slice a15 L.length c15) L, rwN (.slice a11 (doubtTo sl sl.length).length c11) (doubtTo sl sl.length), rwS (.slice (some ⟨a9, 0, none⟩) sl.length c9) sl, rwI (.slice (some ⟨ta, 0, none⟩) T.length tcap) T, rwI (.slice (some ⟨sa, 0, none⟩) ss.length scap) ss, rwH (.slice (some ⟨ha, 0, none⟩) hs.length hcap) hs] [(q13, Obj.cells #[.int .i64 x, .int .i64 y] 54 (0, 0)), (q, Obj.cells #[.int .i64 m, .slice (some ⟨ha, 0, none⟩) hs.length hcap, .slice (some ⟨sa, 0, none⟩) ss.length scap] 25 (0, 0))] W)) (fun i _ => sl.length - (intOf i).toNat)
            case atStart => exact ⟨0, Nat.zero_le _, rfl, HK⟩
            case round =>
              as_aux_lemma =>
                clear HK
                obtain ⟨j, hj, rfl, HK⟩ := hrel
                by_cases hlj : j < sl.length
                · obtain ⟨q1, q2, q3⟩ := HK.out.cellS (g := a9) (cap := c9) (l := sl) (by simp) hlj
                  have hdm := doubt_mem (l := sl) hlj
                  obtain ⟨⟨x1, x2, x3⟩, hxj⟩ : ∃ xj, xj = sl.getD j (false, false, false) := ⟨_, rfl⟩
                  rw [← hxj] at q1 q2 q3 hdm
                  dsimp only at q1 q2 q3
                  have HDM := Lib.hid hdm
                  have hi1 : (j : Int) < (sl.length : Int) := by omega
                  have hi3 : (j : Int) < 1000 := by have h2 := HSL.out.2; have h3 := HLN.out; omega
                  clear hxj hdm
                  go_upto_region 52 with (fail)
                  clear q1 q2 q3
                  have HKa := Lib.hid (HK.out.lay (.cells #[.bool x1, .bool x2, .bool x3] 41))
                  obtain ⟨q38, hqe⟩ : ∃ q, q = wr.heap.size := ⟨_, rfl⟩
                  simp only [← hqe] at HKa ⊢
                  generalize wr.alloc (.cells #[.bool x1, .bool x2, .bool x3] 41) = wa at HKa ⊢
                  clear HK hqe
                  obtain ⟨e0, e1, e2⟩ := HKa.out.box3 (q := q38) (a := .bool x1) (b := .bool x2) (e := .bool x3) (t := 41) (by simp)
                  go_upto_region 53 with (fail)
                  clear e0 e1 e2
                  have HKd := Lib.hid (HKa.out.lay (.cells #[.bool x1, .bool x2, .bool x3] 4))
                  obtain ⟨q327, hqe⟩ : ∃ q, q = wa.heap.size := ⟨_, rfl⟩
                  simp only [← hqe] at HKd ⊢
                  generalize wa.alloc (.cells #[.bool x1, .bool x2, .bool x3] 4) = wd at HKd ⊢
                  clear HKa hqe
                  go_loopw [39, 329] (fun v i W => ∃ k' : Nat, k' ≤ 3 ∧ i = .int .i64 k' ∧ v = .int .i64 ((cnt3 x1 x2 x3 k' : Nat) : Int) ∧ Hid (Kept w S d1 c [rwN (.slice a15 L.length c15) L, rwN (.slice a11 (doubtTo sl sl.length).length c11) (doubtTo sl sl.length), rwS (.slice (some ⟨a9, 0, none⟩) sl.length c9) sl, rwI (.slice (some ⟨ta, 0, none⟩) T.length tcap) T, rwI (.slice (some ⟨sa, 0, none⟩) ss.length scap) ss, rwH (.slice (some ⟨ha, 0, none⟩) hs.length hcap) hs] ((q327, Obj.cells #[.bool x1, .bool x2, .bool x3] 4 (0, 0)) :: (q38, Obj.cells #[.bool x1, .bool x2, .bool x3] 41 (0, 0)) :: [(q13, Obj.cells #[.int .i64 x, .int .i64 y] 54 (0, 0)), (q, Obj.cells #[.int .i64 m, .slice (some ⟨ha, 0, none⟩) hs.length hcap, .slice (some ⟨sa, 0, none⟩) ss.length scap] 25 (0, 0))]) W)) (fun _ i _ => 3 - (intOf i).toNat)
                  case atStart => exact ⟨0, by omega, rfl, by simp [cnt3], HKd⟩
                  case round =>
                    as_aux_lemma =>
                      clear HKd
                      obtain ⟨k', hk', rfl, hv, HK⟩ := hrel
                      subst hv
                      by_cases hl3 : k' < 3
                      · obtain ⟨e0, e1, e2⟩ := HK.out.box3 (q := q327) (a := .bool x1) (b := .bool x2) (e := .bool x3) (t := 4) (by simp)
                        obtain ⟨n, hn⟩ : ∃ n, n = cnt3 x1 x2 x3 k' := ⟨_, rfl⟩
                        have hnb : (n : Int) ≤ 3 := by rw [hn]; unfold cnt3; split <;> split <;> split <;> simp
                        rw [← hn]
                        have HN1 := Lib.hid hn
                        clear hn
                        obtain ⟨bx, hbx⟩ : ∃ bx, bx = (if k' = 0 then x1 else if k' = 1 then x2 else x3) := ⟨_, rfl⟩
                        have q0 : wr.cell? ⟨q327, k', none⟩ = some (.bool bx) := by
                          have hcase : k' = 0 ∨ k' = 1 ∨ k' = 2 := by omega
                          rcases hcase with rfl | rfl | rfl
                          · rw [hbx]; exact e0
                          · rw [hbx]; exact e1
                          · rw [hbx]; exact e2
                        have hcn : cnt3 x1 x2 x3 (k' + 1) = n + (if bx then 1 else 0) := by
                          have hcase : k' = 0 ∨ k' = 1 ∨ k' = 2 := by omega
                          rw [HN1.out, hbx]
                          rcases hcase with rfl | rfl | rfl <;> cases x1 <;> cases x2 <;> cases x3 <;> rfl
                        have HCN := Lib.hid hcn
                        have hki : (k' : Int) < 3 := by omega
                        clear e0 e1 e2 hbx hcn
                        cases bx with
                        | true =>
                          go_wp2
                          go_roundw
                          case rel => exact ⟨k' + 1, by omega, by go_num, by rw [HCN.out]; push_cast; rfl, HK⟩
                          case measure => simp [intOf]; omega
                        | false =>
                          go_wp2
                          go_roundw
                          case rel => exact ⟨k' + 1, by omega, by go_num, by rw [HCN.out]; rfl, HK⟩
                          case measure => simp [intOf]; omega
                      · have hk3 : k' = 3 := by omega
                        subst hk3
                        obtain ⟨n, hn⟩ : ∃ n, n = cnt3 x1 x2 x3 3 := ⟨_, rfl⟩
                        rw [← hn]
                        obtain ⟨z, hz⟩ : ∃ z, doubtB (x1, x2, x3) = z := ⟨_, rfl⟩
                        have dd : decide ((1 : Int) < (n : Int)) = z := by rw [← hz, hn]; cases x1 <;> cases x2 <;> cases x3 <;> rfl
                        have HZ := Lib.hid hz
                        clear hn hz
                        go_wp2_with fail
                        refine (contains_any (B := wr.heap.size) (xs := (doubtTo sl sl.length).map Int.ofNat) (j : Int) (by have h1 := doubt_len sl; have h2 := HSL.out.2; have h3 := HLN.out; rw [List.length_map]; omega) (HK.out.rsN (v := .slice a11 (doubtTo sl sl.length).length c11) (l := doubtTo sl sl.length) (by simp))).mono ?_
                        rintro e w' ⟨rfl, rfl⟩
                        rw [HDM.out, HZ.out]
                        go_wp2
                        go_roundw
                        case rel => exact ⟨j + 1, by omega, by go_num, Lib.hid (HK.out.less (fun r h => h) (fun p h => .tail _ (.tail _ h)))⟩
                        case measure => simp [intOf]; omega
                · have hjl : j = sl.length := by omega
                  subst hjl
                  go_wp2_with fail
                  refine (awake_any _).mono ?_
                  rintro e wz ⟨rfl, hb⟩
                  have HB := Lib.hid (HK.out.b.trans (hb.mono HK.out.b.size))
                  clear hb
                  go_wp2
                  go_ret
                  exact ⟨rfl, HB.out⟩
end Go.Proofs.Ytdgibmgifgdpbaa
