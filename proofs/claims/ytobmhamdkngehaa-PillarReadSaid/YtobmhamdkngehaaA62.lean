/-
  Parts of the proof, in the order in which they build: PsRead.
-/
import Derived.Deep.CutRange
import Derived.BigQuiet
import Derived.Maps.AppendAt
import Derived.Test.YtobmhamdkngehaaA60
import Derived.Test.YtobmhamdkngehaaA61
import Derived.Test.YtobmhamdkngehaaA20
import Derived.Test.YtobmhamdkngehaaA44
import Derived.Test.YtobmhamdkngehaaA9
import Derived.Test.YtobmhamdkngehaaB36
set_option linter.unusedVariables false
set_option linter.unusedSimpArgs false
namespace Go.Proofs.Ytobmhamdkngehaa
open Go.RowKit Go.Shelf
open Lim

set_option maxRecDepth 20000 in
set_option maxHeartbeats 8000000 in
theorem pread_any {B : Nat} {nv tv0 : Value} {ns ts : List Int} {a0 : Int} {w : World} (hB : B ≤ w.heap.size) (hn : RS B w nv ns.length (u8s ns)) (hnu : ∀ x ∈ ns, 0 ≤ x ∧ x ≤ 255) (ht : RS B w tv0 ts.length (u8s ts)) (htu : ∀ x ∈ ts, 0 ≤ x ∧ x ≤ 255) :
  Calls Try.prog 7 #[nv, tv0, .int .i64 a0] w fun e w' => e = .returned (.bool true) ∧ Below w.heap.size w w' := by
 have HA := Lib.hid (And.intro hB (And.intro hn (And.intro hnu (And.intro ht htu))))
 obtain ⟨na, nc, rfl, -⟩ := hn
 obtain ⟨ua, uc, rfl, -⟩ := ht
 clear hB hnu htu
 go_enter Try.func7, Try.ntmps7
 go_wp2_with fail
 refine (of_dk HA.out.1 HA.out.2.1 HA.out.2.2.1).mono ?_
 rintro e w1 ⟨rfl, hd0, hb1, hs1⟩
 have HD0 := Lib.hid (And.intro hd0 (And.intro hb1 hs1))
 clear hd0 hb1 hs1
 go_wp2_with fail
 refine (of_dk (B := B) (by have h1 := HA.out.1; have h2 := HD0.out.2.1.size; omega) (HA.out.2.2.2.1.below (HD0.out.2.1.mono HA.out.1)) HA.out.2.2.2.2).mono ?_
 rintro e w2 ⟨rfl, hd1, hb2, hs2⟩
 have HD1 := Lib.hid (And.intro hd1 (And.intro hb2 hs2))
 clear hd1 hb2 hs2
 go_wp2_with fail
 refine (stoned_any (M := 9) (d := w.heap.size) (c0 := 0) ((HD0.out.1.below HD1.out.2.1).deck (n := 0) (by omega)) (by omega) (by omega)).mono ?_
 rintro e w3 ⟨rv, fv, mv, lv, dd, T, L, c', rfl, hP, -, -, hgr, ho, -⟩
 have HP := Lib.hid hP
 have HLN : Hid (dd.m.length = L.length ∧ dd.f.length + 1 = L.length ∧ 1 ≤ L.length ∧ L.length ≤ 10 ∧ 1 ≤ dd.r.length ∧ dd.r.length ≤ 9) := Lib.hid (by have h1 := hP.lens; have h2 := hP.n; omega)
 have HK0 := Lib.hid (Mem.start2R HA.out.1 HA.out.2.2.2.1 HD0.out.2.1 HD0.out.2.2 HD1.out.1 HD1.out.2.1 HD1.out.2.2 (Int.le_refl _) hgr ho)
 obtain ⟨d1, hd1e⟩ : ∃ d1, d1 = w1.heap.size := ⟨_, rfl⟩
 obtain ⟨S, hSe⟩ : ∃ S, S = w2.heap.size := ⟨_, rfl⟩
 rw [← hd1e, ← hSe, ← HLN.out.1] at HK0
 obtain ⟨rg, rc, rfl⟩ : ∃ g cap, rv = .slice (some ⟨g, 0, none⟩) dd.r.length cap := form_pos (r := rwS rv dd.r.length dd.r) (HK0.out.r _ (by simp)) (show 0 < dd.r.length by have := HLN.out; omega)
 obtain ⟨fa, fc, rfl⟩ : ∃ a c, fv = .slice a dd.f.length c := row_form (r := rwS fv dd.f.length dd.f) (HK0.out.r _ (by simp))
 obtain ⟨mg, mc, rfl⟩ : ∃ g cap, mv = .slice (some ⟨g, 0, none⟩) dd.m.length cap := form_pos (r := rwI mv dd.m.length dd.m) (HK0.out.r _ (by simp)) (show 0 < dd.m.length by have := HLN.out; omega)
 obtain ⟨lg, lc, rfl⟩ : ∃ g cap, lv = .slice (some ⟨g, 0, none⟩) dd.m.length cap := form_pos (r := rwI lv dd.m.length (L.map Int.ofNat)) (HK0.out.r _ (by simp)) (show 0 < dd.m.length by have := HLN.out; omega)
 simp only [← hd1e]
 clear hP hgr ho hd1e hSe HD0 HD1 HA
 go_upto_region 3 with (fail)
 obtain ⟨w4, hw4⟩ : ∃ w4, w4 = w3.alloc (.cells #[.slice (some ⟨rg, 0, none⟩) dd.r.length rc] 41) := ⟨_, rfl⟩
 obtain ⟨w5, hw5⟩ : ∃ w5, w5 = w4.alloc (.cells #[.slice fa dd.f.length fc, .slice (some ⟨mg, 0, none⟩) dd.m.length mc] 43) := ⟨_, rfl⟩
 obtain ⟨q9, hq9⟩ : ∃ q, q = w3.heap.size := ⟨_, rfl⟩
 obtain ⟨q10, hq10⟩ : ∃ q, q = q9 + 1 := ⟨_, rfl⟩
 have HK1 : Hid (Mem w S d1 0 [rwS (.slice (some ⟨rg, 0, none⟩) dd.r.length rc) dd.r.length dd.r, rwS (.slice fa dd.f.length fc) dd.f.length dd.f, rwI (.slice (some ⟨mg, 0, none⟩) dd.m.length mc) dd.m.length dd.m, rwI (.slice (some ⟨lg, 0, none⟩) dd.m.length lc) dd.m.length (L.map Int.ofNat)] [] [(q10, Obj.cells #[.slice fa dd.f.length fc, .slice (some ⟨mg, 0, none⟩) dd.m.length mc] 43 (0, 0)), (q9, Obj.cells #[.slice (some ⟨rg, 0, none⟩) dd.r.length rc] 41 (0, 0))] w5) := Lib.hid (by
  have h := (HK0.out.lay (.cells #[.slice (some ⟨rg, 0, none⟩) dd.r.length rc] 41)).lay (.cells #[.slice fa dd.f.length fc, .slice (some ⟨mg, 0, none⟩) dd.m.length mc] 43)
  have s1 : w4.heap.size = q10 := by rw [hw4, hq10, hq9]; simp
  rw [← hw4, ← hw5, s1, ← hq9] at h
  exact h)
 simp only [← hw4, ← hw5, ← hq9, ← hq10]
 clear hw4 hw5 hq9 hq10 HK0
 have b0 := (box_cell HK1.out (cs := #[.slice (some ⟨rg, 0, none⟩) dd.r.length rc]) (t := 41) (p := q9) (j := 0) (by simp) rfl).1
 have b1 := (box_cell HK1.out (cs := #[.slice fa dd.f.length fc, .slice (some ⟨mg, 0, none⟩) dd.m.length mc]) (t := 43) (p := q10) (j := 0) (by simp) rfl).1
 have b2 := (box_cell HK1.out (cs := #[.slice fa dd.f.length fc, .slice (some ⟨mg, 0, none⟩) dd.m.length mc]) (t := 43) (p := q10) (j := 1) (by simp) rfl).1
 go_wp2_with fail
 refine (Readings_any (B := w5.heap.size) (d := dd) (Nat.le_refl _) (HK1.out.rsS (v := .slice (some ⟨rg, 0, none⟩) dd.r.length rc) (n := dd.r.length) (l := dd.r) (.inl (by simp)) rfl) (fun a c h => by cases h; exact own_cap (HK1.out.r (rwS (.slice (some ⟨rg, 0, none⟩) dd.r.length rc) dd.r.length dd.r) (by simp))) (HK1.out.rsS (v := .slice fa dd.f.length fc) (n := dd.f.length) (l := dd.f) (.inl (by simp)) rfl) (HK1.out.rsI (v := .slice (some ⟨mg, 0, none⟩) dd.m.length mc) (n := dd.m.length) (l := dd.m) (.inl (by simp)) rfl)).mono ?_
 rintro e w6 ⟨rfl, hb⟩
 have HK2 := Lib.hid (HK1.out.grow hb)
 rw [read_ok (HP.out.err (by omega))]
 clear hb HK1 b0 b1 b2
 have b0 := (box_cell HK2.out (cs := #[.slice (some ⟨rg, 0, none⟩) dd.r.length rc]) (t := 41) (p := q9) (j := 0) (by simp) rfl).1
 have b1 := (box_cell HK2.out (cs := #[.slice fa dd.f.length fc, .slice (some ⟨mg, 0, none⟩) dd.m.length mc]) (t := 43) (p := q10) (j := 0) (by simp) rfl).1
 have b2 := (box_cell HK2.out (cs := #[.slice fa dd.f.length fc, .slice (some ⟨mg, 0, none⟩) dd.m.length mc]) (t := 43) (p := q10) (j := 1) (by simp) rfl).1
 go_wp2_with fail
 refine (Numbers_any (B := w6.heap.size) (d := dd) (Nat.le_refl _) (HK2.out.rsS (v := .slice (some ⟨rg, 0, none⟩) dd.r.length rc) (n := dd.r.length) (l := dd.r) (.inl (by simp)) rfl) (fun a c h => by cases h; exact own_cap (HK2.out.r (rwS (.slice (some ⟨rg, 0, none⟩) dd.r.length rc) dd.r.length dd.r) (by simp))) (HK2.out.rsS (v := .slice fa dd.f.length fc) (n := dd.f.length) (l := dd.f) (.inl (by simp)) rfl) (plain_own (HK2.out.r (rwS (.slice fa dd.f.length fc) dd.f.length dd.f) (by simp))).1 (HK2.out.rsI (v := .slice (some ⟨mg, 0, none⟩) dd.m.length mc) (n := dd.m.length) (l := dd.m) (.inl (by simp)) rfl)).mono ?_
 rintro e w7 ⟨v, er, rfl, hb, ha⟩
 obtain ⟨rfl, hri⟩ := numbers_ok (by omega) HP.out ha
 obtain ⟨vs, NR, hno, hnv, hnl⟩ := hri.lists
 have hml : ((List.range dd.m.length).map (nums dd)).length = dd.m.length := by simp
 rw [hml] at hnv
 have HK3 := Lib.hid (HK2.out.addRs hb hno)
 obtain ⟨vg, vc, rfl⟩ : ∃ g cap, v = .slice (some ⟨g, 0, none⟩) dd.m.length cap := form_pos (r := ⟨22, 1, v, dd.m.length, vs⟩) (hno _ hnv) (show 0 < dd.m.length by have := HLN.out; omega)
 have HNR : Hid ((⟨22, 1, .slice (some ⟨vg, 0, none⟩) dd.m.length vc, dd.m.length, vs⟩ : Row) ∈ NR ∧ ∀ k, k < dd.m.length → ∃ x, vs[k]? = some x ∧ rwI x (nums dd k).length (nums dd k) ∈ NR) := Lib.hid ⟨hnv, fun k hk => hnl k _ (nums_at dd hk)⟩
 clear hb ha hri hno hnv hnl hml HK2 b0 b1 b2
 have b0 := (box_cell HK3.out (cs := #[.slice (some ⟨rg, 0, none⟩) dd.r.length rc]) (t := 41) (p := q9) (j := 0) (by simp) rfl).1
 have b1 := (box_cell HK3.out (cs := #[.slice fa dd.f.length fc, .slice (some ⟨mg, 0, none⟩) dd.m.length mc]) (t := 43) (p := q10) (j := 0) (by simp) rfl).1
 have b2 := (box_cell HK3.out (cs := #[.slice fa dd.f.length fc, .slice (some ⟨mg, 0, none⟩) dd.m.length mc]) (t := 43) (p := q10) (j := 1) (by simp) rfl).1
 go_wp2_with fail
 refine (Wrong_any (B := w7.heap.size) (d := dd) (Nat.le_refl _) (HK3.out.rsS (v := .slice (some ⟨rg, 0, none⟩) dd.r.length rc) (n := dd.r.length) (l := dd.r) (.inl (by simp)) rfl) (fun a c h => by cases h; exact own_cap (HK3.out.r (rwS (.slice (some ⟨rg, 0, none⟩) dd.r.length rc) dd.r.length dd.r) (by simp))) (HK3.out.rsS (v := .slice fa dd.f.length fc) (n := dd.f.length) (l := dd.f) (.inl (by simp)) rfl) (HK3.out.rsI (v := .slice (some ⟨mg, 0, none⟩) dd.m.length mc) (n := dd.m.length) (l := dd.m) (.inl (by simp)) rfl)).mono ?_
 rintro e w8 ⟨v, er, rfl, hb, ha⟩
 obtain ⟨rfl, rfl⟩ := wrong_reads (HP.out.err (by omega)) HP.out.pos ha
 have HK4 := Lib.hid (HK3.out.grow hb)
 clear hb ha HK3 b0 b1 b2
 obtain ⟨TT, hTT⟩ : ∃ t, t = total dd := ⟨_, rfl⟩
 rw [← hTT]
 have HTT := Lib.hid hTT
 have ht1 : 1 ≤ TT := by rw [hTT]; exact HP.out.pos
 have ht2 : TT ≤ 1024 := by rw [hTT]; exact Nat.le_of_lt (total_small (by have := HLN.out; omega))
 have dt : decide ((TT : Int) < 1) = false := by rw [decide_eq_false_iff_not]; omega
 have dt2 : decide (TT < 1) = false := by rw [decide_eq_false_iff_not]; omega
 clear hTT
 go_wp2_with fail
 clear dt dt2
 go_loopw [83] (fun i W => ∃ k : Nat, k ≤ dd.m.length ∧ i = .int .i64 k ∧ Hid (Mem w S d1 0 (NR ++ [rwS (.slice (some ⟨rg, 0, none⟩) dd.r.length rc) dd.r.length dd.r, rwS (.slice fa dd.f.length fc) dd.f.length dd.f, rwI (.slice (some ⟨mg, 0, none⟩) dd.m.length mc) dd.m.length dd.m, rwI (.slice (some ⟨lg, 0, none⟩) dd.m.length lc) dd.m.length (L.map Int.ofNat)]) [] [(q10, Obj.cells #[.slice fa dd.f.length fc, .slice (some ⟨mg, 0, none⟩) dd.m.length mc] 43 (0, 0)), (q9, Obj.cells #[.slice (some ⟨rg, 0, none⟩) dd.r.length rc] 41 (0, 0))] W)) (fun i _ => dd.m.length - (intOf i).toNat)
 case atStart => exact ⟨0, Nat.zero_le _, rfl, HK4⟩
 case round =>
  as_aux_lemma =>
   clear HK4
   obtain ⟨k, hk, rfl, HK⟩ := hrel
   by_cases hlk : k < dd.m.length
   ·have hki : (k : Int) < (dd.m.length : Int) := by omega
    have hk10 : k < 10 := by have := HLN.out; omega
    obtain ⟨x, hx, hxr⟩ := HNR.out.2 k hlk
    have q0 := row_cell (r := ⟨22, 1, .slice (some ⟨vg, 0, none⟩) dd.m.length vc, dd.m.length, vs⟩) (HK.out.r _ (List.mem_append_left _ HNR.out.1)) rfl hx
    obtain ⟨xa, xc, rfl⟩ : ∃ a c, x = .slice a (nums dd k).length c := row_form (r := rwI x (nums dd k).length (nums dd k)) (HK.out.r _ (List.mem_append_left _ hxr))
    obtain ⟨NK, hNK⟩ : ∃ l, l = nums dd k := ⟨_, rfl⟩
    rw [← hNK] at hxr q0
    obtain ⟨y, hy⟩ : ∃ y, y = L.getD k 0 := ⟨_, rfl⟩
    have HY : Hid (decide ((y : Int) ∈ NK) = true) := Lib.hid (by rw [decide_eq_true_eq, hNK, hy]; exact HP.out.mem hlk)
    have q1 := HK.out.cellI (g := lg) (n := dd.m.length) (cap := lc) (l := L.map Int.ofNat) (.inl (by simp)) (j := k) (by rw [List.length_map]; have := HLN.out; omega)
    rw [getD_map, ← hy] at q1
    have HXR := Lib.hid hxr
    have HNKL : Hid (NK.length ≤ 10) := Lib.hid (by rw [hNK]; have h1 := nums_len dd k; have h2 := HLN.out; omega)
    clear hx hxr hNK hy
    go_wp2_with fail
    refine (contains_any (B := wr.heap.size) (xs := NK) (y : Int) (by have := HNKL.out; omega) (HK.out.rsI (v := .slice xa NK.length xc) (n := NK.length) (l := NK) (.inl (List.mem_append_left _ HXR.out)) rfl)).mono ?_
    rintro e w' ⟨rfl, rfl⟩
    rw [HY.out]
    go_wp2
    go_roundw
    case rel => exact ⟨k + 1, by omega, by go_num, HK⟩
    case measure => simp [intOf]; omega
   ·have hki : ¬ ((k : Int) < (dd.m.length : Int)) := by omega
    clear hlk hk
    go_wp2_with fail
    refine (fold_any (v := a0) (n := (dd.m.length : Int)) wr (by have := HLN.out; omega)).mono ?_
    rintro e w' ⟨r, rfl, hr, rfl⟩
    obtain ⟨kk, hkk⟩ : ∃ kk : Nat, r = (kk : Int) := ⟨r.toNat, by omega⟩
    subst hkk
    have hkm : kk < dd.m.length := by omega
    have HKM := Lib.hid hkm
    have hki2 : (kk : Int) < (dd.m.length : Int) := by omega
    obtain ⟨x, hx, hxr⟩ := HNR.out.2 kk hkm
    have q0 := row_cell (r := ⟨22, 1, .slice (some ⟨vg, 0, none⟩) dd.m.length vc, dd.m.length, vs⟩) (HK.out.r _ (List.mem_append_left _ HNR.out.1)) rfl hx
    obtain ⟨NK, hNK⟩ : ∃ l, l = nums dd kk := ⟨_, rfl⟩
    rw [← hNK] at hxr
    have HNK := Lib.hid hNK
    obtain ⟨xg, xc, rfl⟩ : ∃ g c, x = .slice (some ⟨g, 0, none⟩) NK.length c := form_pos (r := rwI x NK.length NK) (HK.out.r _ (List.mem_append_left _ hxr)) (show 0 < NK.length by
     rw [hNK]
     have := nums_have HP.out hkm
     rcases Nat.eq_zero_or_pos (nums dd kk).length with h | h
     ·exact absurd (List.length_eq_zero_iff.1 h) this
     ·exact h)
    have HXR := Lib.hid hxr
    have HNKL : Hid (NK.length ≤ 10) := Lib.hid (by rw [hNK]; have h1 := nums_len dd kk; have h2 := HLN.out; omega)
    clear hx hxr hNK hr hkm hki
    go_wp2_with fail
    clear q0 hki2
    go_loopw [21, 105] (fun s i W => ∃ t : Nat, t ≤ NK.length ∧ i = .int .i64 t ∧ s = .int .i64 (part dd kk (NK.take t) : Nat) ∧ Hid (Mem w S d1 0 (NR ++ [rwS (.slice (some ⟨rg, 0, none⟩) dd.r.length rc) dd.r.length dd.r, rwS (.slice fa dd.f.length fc) dd.f.length dd.f, rwI (.slice (some ⟨mg, 0, none⟩) dd.m.length mc) dd.m.length dd.m, rwI (.slice (some ⟨lg, 0, none⟩) dd.m.length lc) dd.m.length (L.map Int.ofNat)]) [] [(q10, Obj.cells #[.slice fa dd.f.length fc, .slice (some ⟨mg, 0, none⟩) dd.m.length mc] 43 (0, 0)), (q9, Obj.cells #[.slice (some ⟨rg, 0, none⟩) dd.r.length rc] 41 (0, 0))] W)) (fun _ i _ => NK.length - (intOf i).toNat)
    case atStart => exact ⟨0, Nat.zero_le _, rfl, rfl, HK⟩
    case round =>
     as_aux_lemma =>
      clear HK
      obtain ⟨t, ht, rfl, rfl, HK⟩ := hrel
      obtain ⟨su, hsu⟩ : ∃ su, su = part dd kk (NK.take t) := ⟨_, rfl⟩
      rw [← hsu]
      have hs3 : su ≤ TT := by rw [hsu, HTT.out, HNK.out]; exact part_le HP.out.rdLen HKM.out t
      by_cases hlt : t < NK.length
      ·have hti : (t : Int) < (NK.length : Int) := by omega
       have ht10 : t < 10 := by have := HNKL.out; omega
       obtain ⟨y, hy, hy1, hy2⟩ := mem_at (d := dd) (k := kk) (i := t) (by rw [← HNK.out]; exact hlt)
       rw [← HNK.out] at hy
       have q1 := HK.out.cellI (g := xg) (n := NK.length) (cap := xc) (l := NK) (.inl (List.mem_append_left _ HXR.out)) (j := t) hlt
       rw [hy] at q1
       have hy10 : y ≤ 10 := by have := HLN.out; omega
       obtain ⟨m1, hm1⟩ : ∃ m1, m1 = total (setN dd kk (y : Int)) := ⟨_, rfl⟩
       have HM1 : Hid (m1 = total (setN dd kk (y : Int)) ∧ 1 ≤ m1 ∧ part dd kk (NK.take (t + 1)) = su + m1 ∧ su + m1 ≤ TT ∧ y ≤ dd.r.length) := Lib.hid (by
        have h1 : part dd kk (NK.take (t + 1)) = su + m1 := by rw [part_take hlt, hy, hsu, hm1]
        refine ⟨hm1, by rw [hm1]; exact set_pos HP.out.rdLen HKM.out hy1 hy2, h1, ?_, hy1⟩
        rw [← h1, HTT.out, HNK.out]; exact part_le HP.out.rdLen HKM.out (t + 1))
       clear hsu hy hy1 hy2 hm1
       go_upto_region 19 with (fail)
       have HKd := Lib.hid HK.out.drew
       have hC : (fun W => W.cell? ⟨q10, 0, none⟩ = some (.slice fa dd.f.length fc) ∧ W.cell? ⟨q10, 1, none⟩ = some (.slice (some ⟨mg, 0, none⟩) dd.m.length mc)) wr.drew := ⟨(box_cell HKd.out (cs := #[.slice fa dd.f.length fc, .slice (some ⟨mg, 0, none⟩) dd.m.length mc]) (t := 43) (p := q10) (j := 0) (by simp) rfl).1, (box_cell HKd.out (cs := #[.slice fa dd.f.length fc, .slice (some ⟨mg, 0, none⟩) dd.m.length mc]) (t := 43) (p := q10) (j := 1) (by simp) rfl).1⟩
       clear HK
       refine Lim.regC' (fun W => W.cell? ⟨q10, 0, none⟩ = some (.slice fa dd.f.length fc) ∧ W.cell? ⟨q10, 1, none⟩ = some (.slice (some ⟨mg, 0, none⟩) dd.m.length mc)) [] #[false, false, false, false, false, false, false, false] (by kernel_rfl) rfl ?_
       refine Lim.stepR 0 (fun _ => trivial) rfl (by kernel_rfl) (fun _ _ _ _ h => h) hC rfl ?_; apply Exists.intro; refine ⟨?_, ?_⟩
       ·rintro w ⟨r0, r1⟩; go_simp; try with_reducible rfl
       simp only [Act.put, List.setIfInBounds_toArray, List.set_cons_succ, List.set_cons_zero]
       refine Lim.stepR 1 (fun _ => trivial) rfl (by kernel_rfl) (fun _ _ _ _ h => h) hC rfl ?_; apply Exists.intro; refine ⟨?_, ?_⟩
       ·rintro w ⟨r0, r1⟩; go_simp; try with_reducible rfl
       simp only [Act.put, List.setIfInBounds_toArray, List.set_cons_succ, List.set_cons_zero]
       refine Lim.stepR 2 (fun _ => trivial) rfl (by kernel_rfl) (fun _ _ _ _ h => h) hC rfl ?_; apply Exists.intro; refine ⟨?_, ?_⟩
       ·rintro w ⟨r0, r1⟩; go_simp; try with_reducible rfl
       simp only [Act.put, List.setIfInBounds_toArray, List.set_cons_succ, List.set_cons_zero]
       refine Lim.stepR 3 (fun _ => trivial) rfl (by kernel_rfl) (fun _ _ _ _ h => h) hC rfl ?_; apply Exists.intro; refine ⟨?_, ?_⟩
       ·rintro w ⟨r0, r1⟩; go_simp; try with_reducible rfl
       simp only [Act.put, List.setIfInBounds_toArray, List.set_cons_succ, List.set_cons_zero]
       refine Lim.parC [4, 5, 6, 7] (fun done a W => ∃ x4 x5 x6 pp, a = { tmps := #[.slice na ns.length nc, .slice ua ts.length uc, .int .i64 a0, undef, undef, undef, u6, .pointer (some ⟨w.heap.size, 0, none⟩), .pointer (some ⟨d1, 0, none⟩), .pointer (some ⟨q9, 0, none⟩), .pointer (some ⟨q10, 0, none⟩), .slice (some ⟨lg, 0, none⟩) dd.m.length lc, .int .i64 TT, .int .i64 0, .slice (some ⟨vg, 0, none⟩) dd.m.length vc, .int .i64 0, .slice none 0 0, .int .i64 10, u18, u19, .int .i64 kk, .int .i64 su, undef, .int .i64 y, x6, u25, u26, undef, undef, undef, undef, undef, .slice na ns.length nc, .pointer (some ⟨w.heap.size, 0, none⟩), .slice ua ts.length uc, .pointer (some ⟨d1, 0, none⟩), .tuple #[.agg #[.slice (some ⟨rg, 0, none⟩) dd.r.length rc], .agg #[.slice fa dd.f.length fc, .slice (some ⟨mg, 0, none⟩) dd.m.length mc], .slice (some ⟨lg, 0, none⟩) dd.m.length lc], .pointer (some ⟨w.heap.size, 0, none⟩), .tuple #[.agg #[.slice (some ⟨rg, 0, none⟩) dd.r.length rc], .agg #[.slice fa dd.f.length fc, .slice (some ⟨mg, 0, none⟩) dd.m.length mc], .slice (some ⟨lg, 0, none⟩) dd.m.length lc], .agg #[.slice (some ⟨rg, 0, none⟩) dd.r.length rc], .agg #[.slice fa dd.f.length fc, .slice (some ⟨mg, 0, none⟩) dd.m.length mc], .slice (some ⟨lg, 0, none⟩) dd.m.length lc, .tuple #[.int .i64 TT, .int .i64 0], .agg #[.slice (some ⟨rg, 0, none⟩) dd.r.length rc], .agg #[.slice fa dd.f.length fc, .slice (some ⟨mg, 0, none⟩) dd.m.length mc], .tuple #[.int .i64 TT, .int .i64 0], .int .i64 TT, .int .i64 0, .tuple #[.slice (some ⟨vg, 0, none⟩) dd.m.length vc, .int .i64 0], .agg #[.slice (some ⟨rg, 0, none⟩) dd.r.length rc], .agg #[.slice fa dd.f.length fc, .slice (some ⟨mg, 0, none⟩) dd.m.length mc], .tuple #[.slice (some ⟨vg, 0, none⟩) dd.m.length vc, .int .i64 0], .slice (some ⟨vg, 0, none⟩) dd.m.length vc, .int .i64 0, .tuple #[.slice none 0 0, .int .i64 10], .agg #[.slice (some ⟨rg, 0, none⟩) dd.r.length rc], .agg #[.slice fa dd.f.length fc, .slice (some ⟨mg, 0, none⟩) dd.m.length mc], .tuple #[.slice none 0 0, .int .i64 10], .slice none 0 0, .int .i64 10, .int .i64 0, .bool false, .bool false, .int .i64 0, .bool false, .bool false, .bool false, .int .i64 10, .bool false, .bool false, .bool false, .int .i64 TT, .bool false, .bool false, .bool false, .slice (some ⟨vg, 0, none⟩) dd.m.length vc, .int .i64 dd.m.length, .slice (some ⟨lg, 0, none⟩) dd.m.length lc, .int .i64 dd.m.length, .bool false, .bool false, .slice (some ⟨lg, 0, none⟩) dd.m.length lc, .int .i64 dd.m.length, .int .i64 k, .bool false, u85, u86, u87, u88, u89, u90, u91, u92, u93, u94, u95, .int .i64 a0, .slice (some ⟨lg, 0, none⟩) dd.m.length lc, .int .i64 dd.m.length, .int .i64 kk, .slice (some ⟨vg, 0, none⟩) dd.m.length vc, .int .i64 kk, .pointer (some ⟨vg, kk, none⟩), .slice (some ⟨xg, 0, none⟩) NK.length xc, .int .i64 NK.length, .int .i64 t, .bool true, .pointer (some ⟨xg, t, none⟩), .int .i64 y, .pointer (some ⟨q10, 0, none⟩), .slice fa dd.f.length fc, .pointer (some ⟨q10, 1, none⟩), .slice (some ⟨mg, 0, none⟩) dd.m.length mc, x4, x5, u115, u116, u117, u118, u119, u120, u121, u122, u123, u124, u125, u126, u127, u128, u129, u130, u131, u132, u133, u134, u135, undef, undef, undef, undef, undef, undef, undef, undef, undef, undef, undef, undef, undef, undef, undef, undef, undef, undef, undef, undef, undef, undef, undef, undef, undef, undef, undef, undef, undef, undef, undef, undef, undef, undef, undef, undef, undef, undef, undef, undef, undef, undef, undef, undef, undef, undef, undef, undef, undef, undef, undef, undef], defers := [] } ∧ Mem w S d1 0 (NR ++ [rwS (.slice (some ⟨rg, 0, none⟩) dd.r.length rc) dd.r.length dd.r, rwS (.slice fa dd.f.length fc) dd.f.length dd.f, rwI (.slice (some ⟨mg, 0, none⟩) dd.m.length mc) dd.m.length dd.m, rwI (.slice (some ⟨lg, 0, none⟩) dd.m.length lc) dd.m.length (L.map Int.ofNat)]) (onR (done 4) (rwI x4 dd.m.length dd.m) ++ ([])) (onX (done 6) pp (cond (done 7) (Obj.cells #[.slice fa dd.f.length fc, x4] 43 (0, 0)) (Obj.cells #[.slice none 0 0, .slice none 0 0] 43 (0, 0))) ++ [(q10, Obj.cells #[.slice fa dd.f.length fc, .slice (some ⟨mg, 0, none⟩) dd.m.length mc] 43 (0, 0)), (q9, Obj.cells #[.slice (some ⟨rg, 0, none⟩) dd.r.length rc] 41 (0, 0))]) W ∧ (done 5 = true → x5 = .agg #[.slice fa dd.f.length fc, x4] ∧ done 4 = true) ∧ (done 6 = true → x6 = .pointer (some ⟨pp, 0, none⟩)) ∧ (done 7 = true → done 5 = true ∧ done 6 = true)) (fun _ => trivial) (by kernel_rfl) rfl rfl ?hC ?step ?fin ⟨_, _, _, 0, rfl, HKd.out, fun h => (by cases h), fun h => (by cases h), fun h => (by cases h)⟩
       case hC =>
        rintro done a W ⟨x4, x5, x6, pp, rfl, H, e5, e6, e7⟩
        exact ⟨(box_cell H (cs := #[.slice fa dd.f.length fc, .slice (some ⟨mg, 0, none⟩) dd.m.length mc]) (t := 43) (p := q10) (j := 0) (by simp) rfl).1, (box_cell H (cs := #[.slice fa dd.f.length fc, .slice (some ⟨mg, 0, none⟩) dd.m.length mc]) (t := 43) (p := q10) (j := 1) (by simp) rfl).1⟩
       case step =>
        intro i o hi ho done a W hd hdep hS K hK
        obtain ⟨x4, x5, x6, pp, rfl, H, e5, e6, e7⟩ := hS
        simp only [List.mem_cons, List.not_mem_nil, or_false] at hi
        rcases hi with rfl | rfl | rfl | rfl
        ·cases ho
         clear hdep
         have n5 : done 5 = false := by
          cases h : done 5 with
          | false => rfl
          | true => exact absurd ((e5 h).2) (by rw [hd]; decide)
         have n7 : done 7 = false := by
          cases h : done 7 with
          | false => rfl
          | true => exact absurd ((e7 h).1) (by rw [n5]; decide)
         rw [onR_no hd, n7] at H
         go_simp
         refine ⟨rfl, (callsIn_wide.2 (kclone_ints (B := W.heap.size) (l := dd.m) (by have := HLN.out; omega) (H.rsI (v := .slice (some ⟨mg, 0, none⟩) dd.m.length mc) (n := dd.m.length) (l := dd.m) (.inl (by simp)) rfl))).mono ?_⟩
         rintro e W' ⟨cv, rfl, o1, hb⟩
         refine hK _ _ ?_
         have H1 := Mem.insQ (Q1 := []) (Q2 := []) H hb (r := rwI cv dd.m.length dd.m) o1
         refine ⟨cv, x5, x6, pp, rfl, ?_, (fun h => by have h : done 5 = true := h; rw [n5] at h; cases h), e6, (fun h => by have h : done 7 = true := h; rw [n7] at h; cases h)⟩
         show Mem w S d1 0 (NR ++ [rwS (.slice (some ⟨rg, 0, none⟩) dd.r.length rc) dd.r.length dd.r, rwS (.slice fa dd.f.length fc) dd.f.length dd.f, rwI (.slice (some ⟨mg, 0, none⟩) dd.m.length mc) dd.m.length dd.m, rwI (.slice (some ⟨lg, 0, none⟩) dd.m.length lc) dd.m.length (L.map Int.ofNat)]) (onR (true) (rwI cv dd.m.length dd.m) ++ ([])) (onX (done 6) pp (cond (done 7) (Obj.cells #[.slice fa dd.f.length fc, cv] 43 (0, 0)) (Obj.cells #[.slice none 0 0, .slice none 0 0] 43 (0, 0))) ++ [(q10, Obj.cells #[.slice fa dd.f.length fc, .slice (some ⟨mg, 0, none⟩) dd.m.length mc] 43 (0, 0)), (q9, Obj.cells #[.slice (some ⟨rg, 0, none⟩) dd.r.length rc] 41 (0, 0))]) W'
         rw [n7]
         exact H1
        ·cases ho
         have h4 := hdep 4 (by kernel_rfl) (by simp)
         clear hdep
         have n7 : done 7 = false := by
          cases h : done 7 with
          | false => rfl
          | true => exact absurd ((e7 h).1) (by rw [hd]; decide)
         rw [onR_yes h4] at H
         obtain ⟨va4, vc4, rfl⟩ : ∃ a c, x4 = .slice a dd.m.length c := row_form (r := rwI x4 dd.m.length dd.m) (H.q _ (by simp))
         go_simp
         refine hK _ _ ?_
         refine ⟨(.slice va4 dd.m.length vc4), _, x6, pp, rfl, ?_, fun _ => ⟨rfl, h4⟩, e6, (fun h => by have h : done 7 = true := h; rw [n7] at h; cases h)⟩
         show Mem w S d1 0 (NR ++ [rwS (.slice (some ⟨rg, 0, none⟩) dd.r.length rc) dd.r.length dd.r, rwS (.slice fa dd.f.length fc) dd.f.length dd.f, rwI (.slice (some ⟨mg, 0, none⟩) dd.m.length mc) dd.m.length dd.m, rwI (.slice (some ⟨lg, 0, none⟩) dd.m.length lc) dd.m.length (L.map Int.ofNat)]) (onR (done 4) (rwI (.slice va4 dd.m.length vc4) dd.m.length dd.m) ++ ([])) (onX (done 6) pp (cond (done 7) (Obj.cells #[.slice fa dd.f.length fc, (.slice va4 dd.m.length vc4)] 43 (0, 0)) (Obj.cells #[.slice none 0 0, .slice none 0 0] 43 (0, 0))) ++ [(q10, Obj.cells #[.slice fa dd.f.length fc, .slice (some ⟨mg, 0, none⟩) dd.m.length mc] 43 (0, 0)), (q9, Obj.cells #[.slice (some ⟨rg, 0, none⟩) dd.r.length rc] 41 (0, 0))]) W
         rw [onR_yes h4]
         exact H
        ·cases ho
         clear hdep
         have n7 : done 7 = false := by
          cases h : done 7 with
          | false => rfl
          | true => exact absurd ((e7 h).2) (by rw [hd]; decide)
         rw [onX_no hd] at H
         go_simp
         refine hK _ _ ?_
         have H1 := Mem.insX (X1 := []) H (Obj.cells #[.slice none 0 0, .slice none 0 0] 43 (0, 0))
         refine ⟨x4, x5, _, W.heap.size, rfl, ?_, e5, fun _ => rfl, (fun h => by have h : done 7 = true := h; rw [n7] at h; cases h)⟩
         show Mem w S d1 0 (NR ++ [rwS (.slice (some ⟨rg, 0, none⟩) dd.r.length rc) dd.r.length dd.r, rwS (.slice fa dd.f.length fc) dd.f.length dd.f, rwI (.slice (some ⟨mg, 0, none⟩) dd.m.length mc) dd.m.length dd.m, rwI (.slice (some ⟨lg, 0, none⟩) dd.m.length lc) dd.m.length (L.map Int.ofNat)]) (onR (done 4) (rwI x4 dd.m.length dd.m) ++ ([])) (onX (true) W.heap.size (cond (done 7) (Obj.cells #[.slice fa dd.f.length fc, x4] 43 (0, 0)) (Obj.cells #[.slice none 0 0, .slice none 0 0] 43 (0, 0))) ++ [(q10, Obj.cells #[.slice fa dd.f.length fc, .slice (some ⟨mg, 0, none⟩) dd.m.length mc] 43 (0, 0)), (q9, Obj.cells #[.slice (some ⟨rg, 0, none⟩) dd.r.length rc] 41 (0, 0))]) _
         rw [n7]
         exact H1
        ·cases ho
         have hB := hdep 5 (by kernel_rfl) (by simp)
         have hA := hdep 6 (by kernel_rfl) (by simp)
         clear hdep
         obtain ⟨rfl, h4⟩ := e5 hB
         obtain rfl := e6 hA
         rw [onR_yes h4, onX_yes hA, hd] at H
         obtain ⟨va4, vc4, rfl⟩ : ∃ a c, x4 = .slice a dd.m.length c := row_form (r := rwI x4 dd.m.length dd.m) (H.q _ (by simp))
         obtain ⟨z0, z1⟩ := box_cell H (cs := #[.slice none 0 0, .slice none 0 0]) (t := 43) (p := pp) (j := 0) (by simp) rfl
         obtain ⟨z2, z3⟩ := box_cell H (cs := #[.slice none 0 0, .slice none 0 0]) (t := 43) (p := pp) (j := 1) (by simp) rfl
         go_simp
         clear z0 z1 z2 z3
         refine hK _ _ ?_
         have H1 := Mem.putX (X1 := []) (Mem.putX (X1 := []) H 0 (.slice fa dd.f.length fc)) 1 ((.slice va4 dd.m.length vc4))
         refine ⟨(.slice va4 dd.m.length vc4), _, _, pp, rfl, ?_, fun _ => ⟨rfl, h4⟩, fun _ => rfl, fun _ => ⟨hB, hA⟩⟩
         show Mem w S d1 0 (NR ++ [rwS (.slice (some ⟨rg, 0, none⟩) dd.r.length rc) dd.r.length dd.r, rwS (.slice fa dd.f.length fc) dd.f.length dd.f, rwI (.slice (some ⟨mg, 0, none⟩) dd.m.length mc) dd.m.length dd.m, rwI (.slice (some ⟨lg, 0, none⟩) dd.m.length lc) dd.m.length (L.map Int.ofNat)]) (onR (done 4) (rwI (.slice va4 dd.m.length vc4) dd.m.length dd.m) ++ ([])) (onX (done 6) pp (cond (true) (Obj.cells #[.slice fa dd.f.length fc, (.slice va4 dd.m.length vc4)] 43 (0, 0)) (Obj.cells #[.slice none 0 0, .slice none 0 0] 43 (0, 0))) ++ [(q10, Obj.cells #[.slice fa dd.f.length fc, .slice (some ⟨mg, 0, none⟩) dd.m.length mc] 43 (0, 0)), (q9, Obj.cells #[.slice (some ⟨rg, 0, none⟩) dd.r.length rc] 41 (0, 0))]) _
         rw [onR_yes h4 , onX_yes hA]
         exact H1
       case fin =>
        rintro done a W hall ⟨x4, x5, x6, pp, rfl, H, e5, e6, e7⟩
        replace e5 := e5 (hall 5 (by simp))
        replace e6 := e6 (hall 6 (by simp))
        replace e7 := e7 (hall 7 (by simp))
        obtain ⟨rfl, -⟩ := e5
        obtain rfl := e6
        rw [onR_yes (hall 4 (by simp)), onX_yes (hall 6 (by simp)), hall 7 (by simp)] at H
        obtain ⟨va4, vc4, rfl⟩ : ∃ a c, x4 = .slice a dd.m.length c := row_form (r := rwI x4 dd.m.length dd.m) (H.q _ (by simp))
        have HKB := Lib.hid H
        clear H hall e7 HKd hC
        dsimp only
        obtain ⟨cg, cc, hcf⟩ : ∃ g c, (Value.slice va4 dd.m.length vc4) = .slice (some ⟨g, 0, none⟩) dd.m.length c := form_pos (r := rwI (.slice va4 dd.m.length vc4) dd.m.length dd.m) (HKB.out.q _ (by simp)) (show 0 < dd.m.length by have := HLN.out; omega)
        cases hcf
        have HKC : Hid (Mem w S d1 0 (NR ++ [rwS (.slice (some ⟨rg, 0, none⟩) dd.r.length rc) dd.r.length dd.r, rwS (.slice fa dd.f.length fc) dd.f.length dd.f, rwI (.slice (some ⟨mg, 0, none⟩) dd.m.length mc) dd.m.length dd.m, rwI (.slice (some ⟨lg, 0, none⟩) dd.m.length lc) dd.m.length (L.map Int.ofNat)]) [rwI (.slice (some ⟨cg, 0, none⟩) dd.m.length vc4) dd.m.length dd.m] ((pp, Obj.cells #[.slice fa dd.f.length fc, .slice (some ⟨cg, 0, none⟩) dd.m.length vc4] 43 (0, 0)) :: [(q10, Obj.cells #[.slice fa dd.f.length fc, .slice (some ⟨mg, 0, none⟩) dd.m.length mc] 43 (0, 0)), (q9, Obj.cells #[.slice (some ⟨rg, 0, none⟩) dd.r.length rc] 41 (0, 0))]) W) := HKB
        clear HKB
        have b4 := (box_cell HKC.out (cs := #[.slice fa dd.f.length fc, .slice (some ⟨cg, 0, none⟩) dd.m.length vc4]) (t := 43) (p := pp) (j := 1) (by simp) rfl).1
        have zc := HKC.out.cellI (g := cg) (n := dd.m.length) (cap := vc4) (l := dd.m) (.inr (by simp)) (j := kk) HKM.out
        have zf : W.frozen? ⟨cg, kk, none⟩ = false := row_frz (HKC.out.q (rwI (.slice (some ⟨cg, 0, none⟩) dd.m.length vc4) dd.m.length dd.m) (by simp)) rfl _
        have hkmi : (kk : Int) < (dd.m.length : Int) := by have := HKM.out; omega
        go_upto_region 21 with (fail)
        have HKD : Hid (Mem w S d1 0 (NR ++ [rwS (.slice (some ⟨rg, 0, none⟩) dd.r.length rc) dd.r.length dd.r, rwS (.slice fa dd.f.length fc) dd.f.length dd.f, rwI (.slice (some ⟨mg, 0, none⟩) dd.m.length mc) dd.m.length dd.m, rwI (.slice (some ⟨lg, 0, none⟩) dd.m.length lc) dd.m.length (L.map Int.ofNat)]) [rwI (.slice (some ⟨cg, 0, none⟩) dd.m.length vc4) dd.m.length (dd.m.set kk (y : Int))] ((pp, Obj.cells #[.slice fa dd.f.length fc, .slice (some ⟨cg, 0, none⟩) dd.m.length vc4] 43 (0, 0)) :: [(q10, Obj.cells #[.slice fa dd.f.length fc, .slice (some ⟨mg, 0, none⟩) dd.m.length mc] 43 (0, 0)), (q9, Obj.cells #[.slice (some ⟨rg, 0, none⟩) dd.r.length rc] 41 (0, 0))]) (W.setCell ⟨cg, kk, none⟩ (.int .i64 (y : Int)))) := Lib.hid (Mem.setI (Q1 := []) HKC.out kk (y : Int))
        clear zc zf b4 HKC hkmi
        generalize W.setCell ⟨cg, kk, none⟩ (.int .i64 (y : Int)) = W8 at HKD ⊢
        have b0 := (box_cell HKD.out (cs := #[.slice (some ⟨rg, 0, none⟩) dd.r.length rc]) (t := 41) (p := q9) (j := 0) (by simp) rfl).1
        have b3 := (box_cell HKD.out (cs := #[.slice fa dd.f.length fc, .slice (some ⟨cg, 0, none⟩) dd.m.length vc4]) (t := 43) (p := pp) (j := 0) (by simp) rfl).1
        have b4 := (box_cell HKD.out (cs := #[.slice fa dd.f.length fc, .slice (some ⟨cg, 0, none⟩) dd.m.length vc4]) (t := 43) (p := pp) (j := 1) (by simp) rfl).1
        go_wp2_with fail
        refine (Readings_any (B := W8.heap.size) (d := setN dd kk (y : Int)) (Nat.le_refl _) (HKD.out.rsS (v := .slice (some ⟨rg, 0, none⟩) dd.r.length rc) (n := dd.r.length) (l := dd.r) (.inl (by simp)) rfl) (fun a c h => by cases h; exact own_cap (HKD.out.r (rwS (.slice (some ⟨rg, 0, none⟩) dd.r.length rc) dd.r.length dd.r) (by simp))) (HKD.out.rsS (v := .slice fa dd.f.length fc) (n := dd.f.length) (l := dd.f) (.inl (by simp)) rfl) (show RS _ _ _ (dd.m.set kk (y : Int)).length (ints (dd.m.set kk (y : Int))) from HKD.out.rsI (v := .slice (some ⟨cg, 0, none⟩) dd.m.length vc4) (n := dd.m.length) (l := dd.m.set kk (y : Int)) (.inr (by simp)) (by simp))).mono ?_
        rintro e w9 ⟨rfl, hb⟩
        have HKE := Lib.hid (HKD.out.grow hb)
        rw [read_ok (HP.out.set_err (by omega) kk ⟨by omega, by have := HM1.out; omega⟩), ← HM1.out.1]
        clear hb HKD b0 b3 b4
        have dt : decide ((m1 : Int) < 1) = false := by rw [decide_eq_false_iff_not]; have := HM1.out; omega
        have dt2 : decide (m1 < 1) = false := by rw [decide_eq_false_iff_not]; have := HM1.out; omega
        obtain ⟨sm, hsm⟩ : ∃ sm, sm = su + m1 := ⟨_, rfl⟩
        have HSM := Lib.hid hsm
        have ew : IntKind.i64.wrap ((su : Int) + (m1 : Int)) = (sm : Int) := by rw [IntWalk.i64_in _ (by have := HM1.out; omega)]; omega
        clear hsm
        go_wp2
        go_roundw
        case rel => exact ⟨t + 1, by omega, by go_num, by rw [HM1.out.2.2.1, HSM.out], Lib.hid (HKE.out.less (fun _ h => h) (List.nil_sublist _) (.cons _ (List.Sublist.refl _)))⟩
        case measure => simp [intOf]; omega
      ·have hti : ¬ ((t : Int) < (NK.length : Int)) := by omega
       have hsT : su = TT := by rw [hsu, HTT.out, show t = NK.length by omega, List.take_length, HNK.out]; exact nums_sum HP.out.rdLen HKM.out
       clear hsu hs3 hlt ht
       subst hsT
       have dn : ((su : Int) != (su : Int)) = false := by simp
       have dn2 : (su != su) = false := by simp
       go_upto_region 28 with (fail)
       clear dn dn2
       have HKd := Lib.hid HK.out.drew
       have hC : (fun W => W.cell? ⟨q10, 0, none⟩ = some (.slice fa dd.f.length fc) ∧ W.cell? ⟨q10, 1, none⟩ = some (.slice (some ⟨mg, 0, none⟩) dd.m.length mc)) wr.drew := ⟨(box_cell HKd.out (cs := #[.slice fa dd.f.length fc, .slice (some ⟨mg, 0, none⟩) dd.m.length mc]) (t := 43) (p := q10) (j := 0) (by simp) rfl).1, (box_cell HKd.out (cs := #[.slice fa dd.f.length fc, .slice (some ⟨mg, 0, none⟩) dd.m.length mc]) (t := 43) (p := q10) (j := 1) (by simp) rfl).1⟩
       clear HK
       refine Lim.regC' (fun W => W.cell? ⟨q10, 0, none⟩ = some (.slice fa dd.f.length fc) ∧ W.cell? ⟨q10, 1, none⟩ = some (.slice (some ⟨mg, 0, none⟩) dd.m.length mc)) [] #[false, false, false, false, false, false, false, false, false] (by kernel_rfl) rfl ?_
       refine Lim.stepR 0 (fun _ => trivial) rfl (by kernel_rfl) (fun _ _ _ _ h => h) hC rfl ?_; apply Exists.intro; refine ⟨?_, ?_⟩
       ·rintro w ⟨r0, r1⟩; go_simp; try with_reducible rfl
       simp only [Act.put, List.setIfInBounds_toArray, List.set_cons_succ, List.set_cons_zero]
       refine Lim.stepR 1 (fun _ => trivial) rfl (by kernel_rfl) (fun _ _ _ _ h => h) hC rfl ?_; apply Exists.intro; refine ⟨?_, ?_⟩
       ·rintro w ⟨r0, r1⟩; go_simp; try with_reducible rfl
       simp only [Act.put, List.setIfInBounds_toArray, List.set_cons_succ, List.set_cons_zero]
       refine Lim.stepR 3 (fun _ => trivial) rfl (by kernel_rfl) (fun _ _ _ _ h => h) hC rfl ?_; apply Exists.intro; refine ⟨?_, ?_⟩
       ·rintro w ⟨r0, r1⟩; go_simp; try with_reducible rfl
       simp only [Act.put, List.setIfInBounds_toArray, List.set_cons_succ, List.set_cons_zero]
       refine Lim.stepR 4 (fun _ => trivial) rfl (by kernel_rfl) (fun _ _ _ _ h => h) hC rfl ?_; apply Exists.intro; refine ⟨?_, ?_⟩
       ·rintro w ⟨r0, r1⟩; go_simp; try with_reducible rfl
       simp only [Act.put, List.setIfInBounds_toArray, List.set_cons_succ, List.set_cons_zero]
       refine Lim.parC [2, 5, 6, 7, 8] (fun done a W => ∃ x2 x5 x6 x7 pp, a = { tmps := #[.slice na ns.length nc, .slice ua ts.length uc, .int .i64 a0, undef, undef, undef, u6, .pointer (some ⟨w.heap.size, 0, none⟩), .pointer (some ⟨d1, 0, none⟩), .pointer (some ⟨q9, 0, none⟩), .pointer (some ⟨q10, 0, none⟩), .slice (some ⟨lg, 0, none⟩) dd.m.length lc, .int .i64 su, .int .i64 0, .slice (some ⟨vg, 0, none⟩) dd.m.length vc, .int .i64 0, .slice none 0 0, .int .i64 10, u18, u19, .int .i64 kk, .int .i64 su, undef, u23, u24, u25, u26, x7, undef, undef, undef, undef, .slice na ns.length nc, .pointer (some ⟨w.heap.size, 0, none⟩), .slice ua ts.length uc, .pointer (some ⟨d1, 0, none⟩), .tuple #[.agg #[.slice (some ⟨rg, 0, none⟩) dd.r.length rc], .agg #[.slice fa dd.f.length fc, .slice (some ⟨mg, 0, none⟩) dd.m.length mc], .slice (some ⟨lg, 0, none⟩) dd.m.length lc], .pointer (some ⟨w.heap.size, 0, none⟩), .tuple #[.agg #[.slice (some ⟨rg, 0, none⟩) dd.r.length rc], .agg #[.slice fa dd.f.length fc, .slice (some ⟨mg, 0, none⟩) dd.m.length mc], .slice (some ⟨lg, 0, none⟩) dd.m.length lc], .agg #[.slice (some ⟨rg, 0, none⟩) dd.r.length rc], .agg #[.slice fa dd.f.length fc, .slice (some ⟨mg, 0, none⟩) dd.m.length mc], .slice (some ⟨lg, 0, none⟩) dd.m.length lc, .tuple #[.int .i64 su, .int .i64 0], .agg #[.slice (some ⟨rg, 0, none⟩) dd.r.length rc], .agg #[.slice fa dd.f.length fc, .slice (some ⟨mg, 0, none⟩) dd.m.length mc], .tuple #[.int .i64 su, .int .i64 0], .int .i64 su, .int .i64 0, .tuple #[.slice (some ⟨vg, 0, none⟩) dd.m.length vc, .int .i64 0], .agg #[.slice (some ⟨rg, 0, none⟩) dd.r.length rc], .agg #[.slice fa dd.f.length fc, .slice (some ⟨mg, 0, none⟩) dd.m.length mc], .tuple #[.slice (some ⟨vg, 0, none⟩) dd.m.length vc, .int .i64 0], .slice (some ⟨vg, 0, none⟩) dd.m.length vc, .int .i64 0, .tuple #[.slice none 0 0, .int .i64 10], .agg #[.slice (some ⟨rg, 0, none⟩) dd.r.length rc], .agg #[.slice fa dd.f.length fc, .slice (some ⟨mg, 0, none⟩) dd.m.length mc], .tuple #[.slice none 0 0, .int .i64 10], .slice none 0 0, .int .i64 10, .int .i64 0, .bool false, .bool false, .int .i64 0, .bool false, .bool false, .bool false, .int .i64 10, .bool false, .bool false, .bool false, .int .i64 su, .bool false, .bool false, .bool false, .slice (some ⟨vg, 0, none⟩) dd.m.length vc, .int .i64 dd.m.length, .slice (some ⟨lg, 0, none⟩) dd.m.length lc, .int .i64 dd.m.length, .bool false, .bool false, .slice (some ⟨lg, 0, none⟩) dd.m.length lc, .int .i64 dd.m.length, .int .i64 k, .bool false, u85, u86, u87, u88, u89, u90, u91, u92, u93, u94, u95, .int .i64 a0, .slice (some ⟨lg, 0, none⟩) dd.m.length lc, .int .i64 dd.m.length, .int .i64 kk, .slice (some ⟨vg, 0, none⟩) dd.m.length vc, .int .i64 kk, .pointer (some ⟨vg, kk, none⟩), .slice (some ⟨xg, 0, none⟩) NK.length xc, .int .i64 NK.length, .int .i64 t, .bool false, u107, u108, u109, u110, u111, u112, u113, u114, u115, u116, u117, u118, u119, u120, u121, u122, u123, u124, u125, u126, u127, u128, u129, u130, u131, u132, u133, u134, u135, .int .i64 su, .int .i64 su, .bool false, .pointer (some ⟨q10, 0, none⟩), .slice fa dd.f.length fc, x2, .pointer (some ⟨q10, 1, none⟩), .slice (some ⟨mg, 0, none⟩) dd.m.length mc, x5, x6, undef, undef, undef, undef, undef, undef, undef, undef, undef, undef, undef, undef, undef, undef, undef, undef, undef, undef, undef, undef, undef, undef, undef, undef, undef, undef, undef, undef, undef, undef, undef, undef, undef, undef, undef, undef, undef, undef, undef, undef, undef, undef], defers := [] } ∧ Mem w S d1 0 (NR ++ [rwS (.slice (some ⟨rg, 0, none⟩) dd.r.length rc) dd.r.length dd.r, rwS (.slice fa dd.f.length fc) dd.f.length dd.f, rwI (.slice (some ⟨mg, 0, none⟩) dd.m.length mc) dd.m.length dd.m, rwI (.slice (some ⟨lg, 0, none⟩) dd.m.length lc) dd.m.length (L.map Int.ofNat)]) (onR (done 2) (rwS x2 dd.f.length dd.f) ++ (onR (done 5) (rwI x5 dd.m.length dd.m) ++ ([]))) (onX (done 7) pp (cond (done 8) (Obj.cells #[x2, x5] 43 (0, 0)) (Obj.cells #[.slice none 0 0, .slice none 0 0] 43 (0, 0))) ++ [(q10, Obj.cells #[.slice fa dd.f.length fc, .slice (some ⟨mg, 0, none⟩) dd.m.length mc] 43 (0, 0)), (q9, Obj.cells #[.slice (some ⟨rg, 0, none⟩) dd.r.length rc] 41 (0, 0))]) W ∧ (done 6 = true → x6 = .agg #[x2, x5] ∧ done 2 = true ∧ done 5 = true) ∧ (done 7 = true → x7 = .pointer (some ⟨pp, 0, none⟩)) ∧ (done 8 = true → done 6 = true ∧ done 7 = true)) (fun _ => trivial) (by kernel_rfl) rfl rfl ?hC ?step ?fin ⟨_, _, _, _, 0, rfl, HKd.out, fun h => (by cases h), fun h => (by cases h), fun h => (by cases h)⟩
       case hC =>
        rintro done a W ⟨x2, x5, x6, x7, pp, rfl, H, e6, e7, e8⟩
        exact ⟨(box_cell H (cs := #[.slice fa dd.f.length fc, .slice (some ⟨mg, 0, none⟩) dd.m.length mc]) (t := 43) (p := q10) (j := 0) (by simp) rfl).1, (box_cell H (cs := #[.slice fa dd.f.length fc, .slice (some ⟨mg, 0, none⟩) dd.m.length mc]) (t := 43) (p := q10) (j := 1) (by simp) rfl).1⟩
       case step =>
        intro i o hi ho done a W hd hdep hS K hK
        obtain ⟨x2, x5, x6, x7, pp, rfl, H, e6, e7, e8⟩ := hS
        simp only [List.mem_cons, List.not_mem_nil, or_false] at hi
        rcases hi with rfl | rfl | rfl | rfl | rfl
        ·cases ho
         clear hdep
         have n6 : done 6 = false := by
          cases h : done 6 with
          | false => rfl
          | true => exact absurd ((e6 h).2.1) (by rw [hd]; decide)
         have n8 : done 8 = false := by
          cases h : done 8 with
          | false => rfl
          | true => exact absurd ((e8 h).1) (by rw [n6]; decide)
         rw [onR_no hd, n8] at H
         go_simp
         refine ⟨rfl, (callsIn_wide.2 (kclone_spans (B := W.heap.size) (l := dd.f) (by have := HLN.out; omega) (H.rsS (v := .slice fa dd.f.length fc) (n := dd.f.length) (l := dd.f) (.inl (by simp)) rfl))).mono ?_⟩
         rintro e W' ⟨cv, rfl, o1, hb⟩
         refine hK _ _ ?_
         have H1 := Mem.insQ (Q1 := []) (Q2 := onR (done 5) (rwI x5 dd.m.length dd.m) ++ ([])) H hb (r := rwS cv dd.f.length dd.f) o1
         refine ⟨cv, x5, x6, x7, pp, rfl, ?_, (fun h => by have h : done 6 = true := h; rw [n6] at h; cases h), e7, (fun h => by have h : done 8 = true := h; rw [n8] at h; cases h)⟩
         show Mem w S d1 0 (NR ++ [rwS (.slice (some ⟨rg, 0, none⟩) dd.r.length rc) dd.r.length dd.r, rwS (.slice fa dd.f.length fc) dd.f.length dd.f, rwI (.slice (some ⟨mg, 0, none⟩) dd.m.length mc) dd.m.length dd.m, rwI (.slice (some ⟨lg, 0, none⟩) dd.m.length lc) dd.m.length (L.map Int.ofNat)]) (onR (true) (rwS cv dd.f.length dd.f) ++ (onR (done 5) (rwI x5 dd.m.length dd.m) ++ ([]))) (onX (done 7) pp (cond (done 8) (Obj.cells #[cv, x5] 43 (0, 0)) (Obj.cells #[.slice none 0 0, .slice none 0 0] 43 (0, 0))) ++ [(q10, Obj.cells #[.slice fa dd.f.length fc, .slice (some ⟨mg, 0, none⟩) dd.m.length mc] 43 (0, 0)), (q9, Obj.cells #[.slice (some ⟨rg, 0, none⟩) dd.r.length rc] 41 (0, 0))]) W'
         rw [n8]
         exact H1
        ·cases ho
         clear hdep
         have n6 : done 6 = false := by
          cases h : done 6 with
          | false => rfl
          | true => exact absurd ((e6 h).2.2) (by rw [hd]; decide)
         have n8 : done 8 = false := by
          cases h : done 8 with
          | false => rfl
          | true => exact absurd ((e8 h).1) (by rw [n6]; decide)
         rw [onR_no hd, n8] at H
         go_simp
         refine ⟨rfl, (callsIn_wide.2 (kclone_ints (B := W.heap.size) (l := dd.m) (by have := HLN.out; omega) (H.rsI (v := .slice (some ⟨mg, 0, none⟩) dd.m.length mc) (n := dd.m.length) (l := dd.m) (.inl (by simp)) rfl))).mono ?_⟩
         rintro e W' ⟨cv, rfl, o1, hb⟩
         refine hK _ _ ?_
         have H1 := Mem.insQ (Q1 := onR (done 2) (rwS x2 dd.f.length dd.f)) (Q2 := []) H hb (r := rwI cv dd.m.length dd.m) o1
         refine ⟨x2, cv, x6, x7, pp, rfl, ?_, (fun h => by have h : done 6 = true := h; rw [n6] at h; cases h), e7, (fun h => by have h : done 8 = true := h; rw [n8] at h; cases h)⟩
         show Mem w S d1 0 (NR ++ [rwS (.slice (some ⟨rg, 0, none⟩) dd.r.length rc) dd.r.length dd.r, rwS (.slice fa dd.f.length fc) dd.f.length dd.f, rwI (.slice (some ⟨mg, 0, none⟩) dd.m.length mc) dd.m.length dd.m, rwI (.slice (some ⟨lg, 0, none⟩) dd.m.length lc) dd.m.length (L.map Int.ofNat)]) (onR (done 2) (rwS x2 dd.f.length dd.f) ++ (onR (true) (rwI cv dd.m.length dd.m) ++ ([]))) (onX (done 7) pp (cond (done 8) (Obj.cells #[x2, cv] 43 (0, 0)) (Obj.cells #[.slice none 0 0, .slice none 0 0] 43 (0, 0))) ++ [(q10, Obj.cells #[.slice fa dd.f.length fc, .slice (some ⟨mg, 0, none⟩) dd.m.length mc] 43 (0, 0)), (q9, Obj.cells #[.slice (some ⟨rg, 0, none⟩) dd.r.length rc] 41 (0, 0))]) W'
         rw [n8]
         exact H1
        ·cases ho
         have h2 := hdep 2 (by kernel_rfl) (by simp)
         have h5 := hdep 5 (by kernel_rfl) (by simp)
         clear hdep
         have n8 : done 8 = false := by
          cases h : done 8 with
          | false => rfl
          | true => exact absurd ((e8 h).1) (by rw [hd]; decide)
         rw [onR_yes h2, onR_yes h5] at H
         obtain ⟨va2, vc2, rfl⟩ : ∃ a c, x2 = .slice a dd.f.length c := row_form (r := rwS x2 dd.f.length dd.f) (H.q _ (by simp))
         obtain ⟨va5, vc5, rfl⟩ : ∃ a c, x5 = .slice a dd.m.length c := row_form (r := rwI x5 dd.m.length dd.m) (H.q _ (by simp))
         go_simp
         refine hK _ _ ?_
         refine ⟨(.slice va2 dd.f.length vc2), (.slice va5 dd.m.length vc5), _, x7, pp, rfl, ?_, fun _ => ⟨rfl, h2, h5⟩, e7, (fun h => by have h : done 8 = true := h; rw [n8] at h; cases h)⟩
         show Mem w S d1 0 (NR ++ [rwS (.slice (some ⟨rg, 0, none⟩) dd.r.length rc) dd.r.length dd.r, rwS (.slice fa dd.f.length fc) dd.f.length dd.f, rwI (.slice (some ⟨mg, 0, none⟩) dd.m.length mc) dd.m.length dd.m, rwI (.slice (some ⟨lg, 0, none⟩) dd.m.length lc) dd.m.length (L.map Int.ofNat)]) (onR (done 2) (rwS (.slice va2 dd.f.length vc2) dd.f.length dd.f) ++ (onR (done 5) (rwI (.slice va5 dd.m.length vc5) dd.m.length dd.m) ++ ([]))) (onX (done 7) pp (cond (done 8) (Obj.cells #[(.slice va2 dd.f.length vc2), (.slice va5 dd.m.length vc5)] 43 (0, 0)) (Obj.cells #[.slice none 0 0, .slice none 0 0] 43 (0, 0))) ++ [(q10, Obj.cells #[.slice fa dd.f.length fc, .slice (some ⟨mg, 0, none⟩) dd.m.length mc] 43 (0, 0)), (q9, Obj.cells #[.slice (some ⟨rg, 0, none⟩) dd.r.length rc] 41 (0, 0))]) W
         rw [onR_yes h2, onR_yes h5]
         exact H
        ·cases ho
         clear hdep
         have n8 : done 8 = false := by
          cases h : done 8 with
          | false => rfl
          | true => exact absurd ((e8 h).2) (by rw [hd]; decide)
         rw [onX_no hd] at H
         go_simp
         refine hK _ _ ?_
         have H1 := Mem.insX (X1 := []) H (Obj.cells #[.slice none 0 0, .slice none 0 0] 43 (0, 0))
         refine ⟨x2, x5, x6, _, W.heap.size, rfl, ?_, e6, fun _ => rfl, (fun h => by have h : done 8 = true := h; rw [n8] at h; cases h)⟩
         show Mem w S d1 0 (NR ++ [rwS (.slice (some ⟨rg, 0, none⟩) dd.r.length rc) dd.r.length dd.r, rwS (.slice fa dd.f.length fc) dd.f.length dd.f, rwI (.slice (some ⟨mg, 0, none⟩) dd.m.length mc) dd.m.length dd.m, rwI (.slice (some ⟨lg, 0, none⟩) dd.m.length lc) dd.m.length (L.map Int.ofNat)]) (onR (done 2) (rwS x2 dd.f.length dd.f) ++ (onR (done 5) (rwI x5 dd.m.length dd.m) ++ ([]))) (onX (true) W.heap.size (cond (done 8) (Obj.cells #[x2, x5] 43 (0, 0)) (Obj.cells #[.slice none 0 0, .slice none 0 0] 43 (0, 0))) ++ [(q10, Obj.cells #[.slice fa dd.f.length fc, .slice (some ⟨mg, 0, none⟩) dd.m.length mc] 43 (0, 0)), (q9, Obj.cells #[.slice (some ⟨rg, 0, none⟩) dd.r.length rc] 41 (0, 0))]) _
         rw [n8]
         exact H1
        ·cases ho
         have hB := hdep 6 (by kernel_rfl) (by simp)
         have hA := hdep 7 (by kernel_rfl) (by simp)
         clear hdep
         obtain ⟨rfl, h2, h5⟩ := e6 hB
         obtain rfl := e7 hA
         rw [onR_yes h2, onR_yes h5, onX_yes hA, hd] at H
         obtain ⟨va2, vc2, rfl⟩ : ∃ a c, x2 = .slice a dd.f.length c := row_form (r := rwS x2 dd.f.length dd.f) (H.q _ (by simp))
         obtain ⟨va5, vc5, rfl⟩ : ∃ a c, x5 = .slice a dd.m.length c := row_form (r := rwI x5 dd.m.length dd.m) (H.q _ (by simp))
         obtain ⟨z0, z1⟩ := box_cell H (cs := #[.slice none 0 0, .slice none 0 0]) (t := 43) (p := pp) (j := 0) (by simp) rfl
         obtain ⟨z2, z3⟩ := box_cell H (cs := #[.slice none 0 0, .slice none 0 0]) (t := 43) (p := pp) (j := 1) (by simp) rfl
         go_simp
         clear z0 z1 z2 z3
         refine hK _ _ ?_
         have H1 := Mem.putX (X1 := []) (Mem.putX (X1 := []) H 0 ((.slice va2 dd.f.length vc2))) 1 ((.slice va5 dd.m.length vc5))
         refine ⟨(.slice va2 dd.f.length vc2), (.slice va5 dd.m.length vc5), _, _, pp, rfl, ?_, fun _ => ⟨rfl, h2, h5⟩, fun _ => rfl, fun _ => ⟨hB, hA⟩⟩
         show Mem w S d1 0 (NR ++ [rwS (.slice (some ⟨rg, 0, none⟩) dd.r.length rc) dd.r.length dd.r, rwS (.slice fa dd.f.length fc) dd.f.length dd.f, rwI (.slice (some ⟨mg, 0, none⟩) dd.m.length mc) dd.m.length dd.m, rwI (.slice (some ⟨lg, 0, none⟩) dd.m.length lc) dd.m.length (L.map Int.ofNat)]) (onR (done 2) (rwS (.slice va2 dd.f.length vc2) dd.f.length dd.f) ++ (onR (done 5) (rwI (.slice va5 dd.m.length vc5) dd.m.length dd.m) ++ ([]))) (onX (done 7) pp (cond (true) (Obj.cells #[(.slice va2 dd.f.length vc2), (.slice va5 dd.m.length vc5)] 43 (0, 0)) (Obj.cells #[.slice none 0 0, .slice none 0 0] 43 (0, 0))) ++ [(q10, Obj.cells #[.slice fa dd.f.length fc, .slice (some ⟨mg, 0, none⟩) dd.m.length mc] 43 (0, 0)), (q9, Obj.cells #[.slice (some ⟨rg, 0, none⟩) dd.r.length rc] 41 (0, 0))]) _
         rw [onR_yes h2, onR_yes h5 , onX_yes hA]
         exact H1
       case fin =>
        rintro done a W hall ⟨x2, x5, x6, x7, pp, rfl, H, e6, e7, e8⟩
        replace e6 := e6 (hall 6 (by simp))
        replace e7 := e7 (hall 7 (by simp))
        replace e8 := e8 (hall 8 (by simp))
        obtain ⟨rfl, -, -⟩ := e6
        obtain rfl := e7
        rw [onR_yes (hall 2 (by simp)), onR_yes (hall 5 (by simp)), onX_yes (hall 7 (by simp)), hall 8 (by simp)] at H
        obtain ⟨va2, vc2, rfl⟩ : ∃ a c, x2 = .slice a dd.f.length c := row_form (r := rwS x2 dd.f.length dd.f) (H.q _ (by simp))
        obtain ⟨va5, vc5, rfl⟩ : ∃ a c, x5 = .slice a dd.m.length c := row_form (r := rwI x5 dd.m.length dd.m) (H.q _ (by simp))
        have HKB := Lib.hid H
        clear H hall e8 HKd hC
        dsimp only
        have HKC : Hid (Mem w S d1 0 (NR ++ [rwS (.slice (some ⟨rg, 0, none⟩) dd.r.length rc) dd.r.length dd.r, rwS (.slice fa dd.f.length fc) dd.f.length dd.f, rwI (.slice (some ⟨mg, 0, none⟩) dd.m.length mc) dd.m.length dd.m, rwI (.slice (some ⟨lg, 0, none⟩) dd.m.length lc) dd.m.length (L.map Int.ofNat)]) [rwS (.slice va2 dd.f.length vc2) dd.f.length dd.f, rwI (.slice va5 dd.m.length vc5) dd.m.length dd.m] ((pp, Obj.cells #[.slice va2 dd.f.length vc2, .slice va5 dd.m.length vc5] 43 (0, 0)) :: [(q10, Obj.cells #[.slice fa dd.f.length fc, .slice (some ⟨mg, 0, none⟩) dd.m.length mc] 43 (0, 0)), (q9, Obj.cells #[.slice (some ⟨rg, 0, none⟩) dd.r.length rc] 41 (0, 0))]) W) := HKB
        clear HKB
        have b1 := (box_cell HKC.out (cs := #[.slice fa dd.f.length fc, .slice (some ⟨mg, 0, none⟩) dd.m.length mc]) (t := 43) (p := q10) (j := 0) (by simp) rfl).1
        go_wp2_with fail
        clear b1
        go_loopw [149] (fun i W => ∃ (t c : Nat) (F : List (Int × Int)), t ≤ dd.f.length ∧ i = .int .i64 t ∧ Hid (c ≤ 2 * t) ∧ Hid (NarF dd.f F) ∧ Hid (Mem w S d1 c (NR ++ [rwS (.slice (some ⟨rg, 0, none⟩) dd.r.length rc) dd.r.length dd.r, rwS (.slice fa dd.f.length fc) dd.f.length dd.f, rwI (.slice (some ⟨mg, 0, none⟩) dd.m.length mc) dd.m.length dd.m, rwI (.slice (some ⟨lg, 0, none⟩) dd.m.length lc) dd.m.length (L.map Int.ofNat)]) [rwS (.slice va2 dd.f.length vc2) dd.f.length F, rwI (.slice va5 dd.m.length vc5) dd.m.length dd.m] ((pp, Obj.cells #[.slice va2 dd.f.length vc2, .slice va5 dd.m.length vc5] 43 (0, 0)) :: [(q10, Obj.cells #[.slice fa dd.f.length fc, .slice (some ⟨mg, 0, none⟩) dd.m.length mc] 43 (0, 0)), (q9, Obj.cells #[.slice (some ⟨rg, 0, none⟩) dd.r.length rc] 41 (0, 0))]) W)) (fun i _ => dd.f.length - (intOf i).toNat)
        case atStart => exact ⟨0, 0, dd.f, Nat.zero_le _, rfl, Lib.hid (Nat.le_refl _), Lib.hid (NarF.start HP.out.spans.2.1), HKC⟩
        case round =>
         as_aux_lemma =>
          clear HKC
          obtain ⟨t, c, F, ht, rfl, HC0, HNF, HK⟩ := hrel
          by_cases hlt : t < dd.f.length
          ·have hti : (t : Int) < (dd.f.length : Int) := by omega
           have ht10 : t < 10 := by have := HLN.out; omega
           obtain ⟨fg, fcap, hff⟩ : ∃ g c, (Value.slice fa dd.f.length fc) = .slice (some ⟨g, 0, none⟩) dd.f.length c := form_pos (r := rwS (.slice fa dd.f.length fc) dd.f.length dd.f) (HK.out.r _ (by simp)) (show 0 < dd.f.length by omega)
           cases hff
           obtain ⟨vg2, vcap, hff⟩ : ∃ g c, (Value.slice va2 dd.f.length vc2) = .slice (some ⟨g, 0, none⟩) dd.f.length c := form_pos (r := rwS (.slice va2 dd.f.length vc2) dd.f.length F) (HK.out.q _ (by simp)) (show 0 < dd.f.length by omega)
           cases hff
           obtain ⟨k0, k1⟩ := HK.out.cellS (g := fg) (n := dd.f.length) (cap := fc) (l := dd.f) (.inl (by simp)) (j := t) hlt
           have hsp := HP.out.spans.2.1 _ (getD_mem (z := (0, 0)) hlt)
           obtain ⟨sa, hsa⟩ : ∃ x, x = (dd.f.getD t (0, 0)).1 := ⟨_, rfl⟩
           obtain ⟨sb, hsb⟩ : ∃ x, x = (dd.f.getD t (0, 0)).2 := ⟨_, rfl⟩
           rw [← hsa] at k0 hsp
           rw [← hsb] at k1 hsp
           have HSAB := Lib.hid (And.intro hsa hsb)
           have HSP := Lib.hid hsp
           have HC : Hid (c ≤ 20) := Lib.hid (by have := HC0.out; omega)
           clear hsa hsb hsp
           go_upto_region 32 with (fail)
           clear k0 k1
           have HKa := Lib.hid (HK.out.lay (.cells #[.int .i64 sa, .int .i64 sb] 25))
           obtain ⟨qs, hqe⟩ : ∃ q, q = wr.heap.size := ⟨_, rfl⟩
           simp only [← hqe] at HKa ⊢
           generalize wr.alloc (.cells #[.int .i64 sa, .int .i64 sb] 25) = ws at HKa ⊢
           clear HK hqe
           have e0 := (box_cell HKa.out (cs := #[.int .i64 sa, .int .i64 sb]) (t := 25) (p := qs) (j := 0) (by simp) rfl).1
           have e1 := (box_cell HKa.out (cs := #[.int .i64 sa, .int .i64 sb]) (t := 25) (p := qs) (j := 1) (by simp) rfl).1
           go_wp2_with fail
           refine (deck_between (a := sa) (b := sb) HKa.out.dk (by have := HC.out; omega) (by have := HSP.out; omega) (by have := HSP.out; omega) HSP.out.2.1).mono ?_
           rintro e wa ⟨lo, rfl, hlo, hdl⟩
           have HKc := Lib.hid (HKa.out.dealt hdl)
           have hsp := HSP.out
           clear hdl HKa e0 e1
           go_upto_region 33 with (fail)
           have HCF : Hid (∀ c F W, Mem w S d1 c (NR ++ [rwS (.slice (some ⟨rg, 0, none⟩) dd.r.length rc) dd.r.length dd.r, rwS (.slice (some ⟨fg, 0, none⟩) dd.f.length fc) dd.f.length dd.f, rwI (.slice (some ⟨mg, 0, none⟩) dd.m.length mc) dd.m.length dd.m, rwI (.slice (some ⟨lg, 0, none⟩) dd.m.length lc) dd.m.length (L.map Int.ofNat)]) [rwS (.slice (some ⟨vg2, 0, none⟩) dd.f.length vc2) dd.f.length F, rwI (.slice va5 dd.m.length vc5) dd.m.length dd.m] ((qs, Obj.cells #[.int .i64 sa, .int .i64 sb] 25 (0, 0)) :: (pp, Obj.cells #[.slice (some ⟨vg2, 0, none⟩) dd.f.length vc2, .slice va5 dd.m.length vc5] 43 (0, 0)) :: [(q10, Obj.cells #[.slice (some ⟨fg, 0, none⟩) dd.f.length fc, .slice (some ⟨mg, 0, none⟩) dd.m.length mc] 43 (0, 0)), (q9, Obj.cells #[.slice (some ⟨rg, 0, none⟩) dd.r.length rc] 41 (0, 0))]) W → (fun W => W.cell? ⟨pp, 0, none⟩ = some (.slice (some ⟨vg2, 0, none⟩) dd.f.length vc2) ∧ W.cell? ⟨qs, 1, none⟩ = some (.int .i64 sb)) W) := Lib.hid fun c F W h => ⟨(box_cell h (cs := #[.slice (some ⟨vg2, 0, none⟩) dd.f.length vc2, .slice va5 dd.m.length vc5]) (t := 43) (p := pp) (j := 0) (by simp) rfl).1, (box_cell h (cs := #[.int .i64 sa, .int .i64 sb]) (t := 25) (p := qs) (j := 1) (by simp) rfl).1⟩
           have HKd := Lib.hid HKc.out.drew
           have hC := HCF.out _ _ _ HKd.out
           clear HKc
           generalize hW0 : wa.drew = W3 at HKd hC
           refine Lim.regC' (fun W => W.cell? ⟨pp, 0, none⟩ = some (.slice (some ⟨vg2, 0, none⟩) dd.f.length vc2) ∧ W.cell? ⟨qs, 1, none⟩ = some (.int .i64 sb)) [] #[false, false, false, false, false, false, false, false, false, false, false, false] (by kernel_rfl) rfl ?_
           rw [hW0]; clear hW0
           refine Lim.stepR 0 (fun _ => trivial) rfl (by kernel_rfl) (fun _ _ _ _ h => h) hC rfl ?_; apply Exists.intro; refine ⟨?_, ?_⟩
           ·rintro w ⟨r0, r1⟩; go_simp; try with_reducible rfl
           simp only [Act.put, List.setIfInBounds_toArray, List.set_cons_succ, List.set_cons_zero]
           refine Lim.stepR 1 (fun _ => trivial) rfl (by kernel_rfl) (fun _ _ _ _ h => h) hC rfl ?_; apply Exists.intro; refine ⟨?_, ?_⟩
           ·rintro w ⟨r0, r1⟩; go_simp; try with_reducible rfl
           simp only [Act.put, List.setIfInBounds_toArray, List.set_cons_succ, List.set_cons_zero]
           refine Lim.stepR 2 (fun _ => trivial) rfl (by kernel_rfl) (fun _ _ _ _ h => h) hC rfl ?_; apply Exists.intro; refine ⟨?_, ?_⟩
           ·rintro w ⟨r0, r1⟩; go_simp; try with_reducible rfl
           simp only [Act.put, List.setIfInBounds_toArray, List.set_cons_succ, List.set_cons_zero]
           refine Lim.stepR 3 (fun _ => trivial) rfl (by kernel_rfl) (fun _ _ _ _ h => h) hC rfl ?_; apply Exists.intro; refine ⟨?_, ?_⟩
           ·rintro w ⟨r0, r1⟩; go_simp; try with_reducible rfl
           simp only [Act.put, List.setIfInBounds_toArray, List.set_cons_succ, List.set_cons_zero]
           refine Lim.stepR 4 (fun _ => trivial) rfl (by kernel_rfl) (fun _ _ _ _ h => h) hC rfl ?_; apply Exists.intro; refine ⟨?_, ?_⟩
           ·rintro w ⟨r0, r1⟩; go_simp; try with_reducible rfl
           simp only [Act.put, List.setIfInBounds_toArray, List.set_cons_succ, List.set_cons_zero]
           refine Lim.stepR 5 (fun _ => trivial) rfl (by kernel_rfl) (fun _ _ _ _ h => h) hC rfl ?_; apply Exists.intro; refine ⟨?_, ?_⟩
           ·rintro w ⟨r0, r1⟩; go_simp; try with_reducible rfl
           simp only [Act.put, List.setIfInBounds_toArray, List.set_cons_succ, List.set_cons_zero]
           refine Lim.stepR 6 (fun _ => trivial) rfl (by kernel_rfl) (fun _ _ _ _ h => h) hC rfl ?_; apply Exists.intro; refine ⟨?_, ?_⟩
           ·rintro w ⟨r0, r1⟩; go_simp; try with_reducible rfl
           simp only [Act.put, List.setIfInBounds_toArray, List.set_cons_succ, List.set_cons_zero]
           refine Lim.stepR 7 (fun _ => trivial) rfl (by kernel_rfl) (fun _ _ _ _ h => h) hC rfl ?_; apply Exists.intro; refine ⟨?_, ?_⟩
           ·rintro w ⟨r0, r1⟩; go_simp; try with_reducible rfl
           simp only [Act.put, List.setIfInBounds_toArray, List.set_cons_succ, List.set_cons_zero]
           refine Lim.stepE 8 (fun _ => trivial) rfl (by kernel_rfl) rfl (fun K hK => ?_)   -- E call
           go_simp
           refine ⟨rfl, (callsIn_wide.2 (deck_between (a := lo) (b := sb) HKd.out.dk (by have := HC.out; omega) (by omega) (by omega) hlo.2)).mono ?_⟩
           rintro e W4 ⟨hi, rfl, hhi, hdl⟩
           have HKe := Lib.hid (HKd.out.dealt hdl)
           have hC2 := HCF.out _ _ _ HKe.out
           refine hK _ _ hC2 ?_
           clear hK hdl HKd hC
           simp only [Act.put, List.setIfInBounds_toArray, List.set_cons_succ, List.set_cons_zero]
           refine Lim.stepE 9 (fun _ => trivial) rfl (by kernel_rfl) rfl (fun K hK => ?_)   -- E call
           go_simp
           refine ⟨rfl, (callsIn_wide.2 (span_any lo hi _)).mono ?_⟩
           rintro e W5 ⟨rfl, hb⟩
           have HKf := Lib.hid (HKe.out.grow hb)
           have hC3 := HCF.out _ _ _ HKf.out
           refine hK _ _ hC3 ?_
           clear hK hb HKe hC2
           simp only [Act.put, List.setIfInBounds_toArray, List.set_cons_succ, List.set_cons_zero]
           refine Lim.stepR 10 (fun _ => trivial) rfl (by kernel_rfl) (fun _ _ _ _ h => h) hC3 rfl ?_; apply Exists.intro; refine ⟨?_, ?_⟩
           ·rintro w ⟨r0, r1⟩; go_simp; try with_reducible rfl
           simp only [Act.put, List.setIfInBounds_toArray, List.set_cons_succ, List.set_cons_zero]
           refine Lim.stepE 11 (fun _ => trivial) rfl (by kernel_rfl) rfl (fun K hK => ?_)   -- E store
           obtain ⟨z0, z1⟩ := HKf.out.cellS (g := vg2) (n := dd.f.length) (cap := vc2) (l := F) (.inr (by simp)) (j := t) (by rw [HNF.out.len]; exact hlt)
           have y0 : W5.frozen? ⟨vg2, t * 2, none⟩ = false := row_frz (HKf.out.q (rwS (.slice (some ⟨vg2, 0, none⟩) dd.f.length vc2) dd.f.length F) (by simp)) rfl _
           have y1 : W5.frozen? ⟨vg2, t * 2 + 1, none⟩ = false := row_frz (HKf.out.q (rwS (.slice (some ⟨vg2, 0, none⟩) dd.f.length vc2) dd.f.length F) (by simp)) rfl _
           go_simp
           have HKg : Hid (Mem w S d1 (c + 1 + 1) (NR ++ [rwS (.slice (some ⟨rg, 0, none⟩) dd.r.length rc) dd.r.length dd.r, rwS (.slice (some ⟨fg, 0, none⟩) dd.f.length fc) dd.f.length dd.f, rwI (.slice (some ⟨mg, 0, none⟩) dd.m.length mc) dd.m.length dd.m, rwI (.slice (some ⟨lg, 0, none⟩) dd.m.length lc) dd.m.length (L.map Int.ofNat)]) [rwS (.slice (some ⟨vg2, 0, none⟩) dd.f.length vc2) dd.f.length (F.set t (lo, hi)), rwI (.slice va5 dd.m.length vc5) dd.m.length dd.m] ((qs, Obj.cells #[.int .i64 sa, .int .i64 sb] 25 (0, 0)) :: (pp, Obj.cells #[.slice (some ⟨vg2, 0, none⟩) dd.f.length vc2, .slice va5 dd.m.length vc5] 43 (0, 0)) :: [(q10, Obj.cells #[.slice (some ⟨fg, 0, none⟩) dd.f.length fc, .slice (some ⟨mg, 0, none⟩) dd.m.length mc] 43 (0, 0)), (q9, Obj.cells #[.slice (some ⟨rg, 0, none⟩) dd.r.length rc] 41 (0, 0))]) ((W5.setCell ⟨vg2, t * 2, none⟩ (.int .i64 lo)).setCell ⟨vg2, t * 2 + 1, none⟩ (.int .i64 hi))) := Lib.hid (Mem.setS (Q1 := []) HKf.out t lo hi)
           have hC4 := HCF.out _ _ _ HKg.out
           refine hK _ _ hC4 ?_
           clear hK z0 z1 y0 y1 HKf hC3
           generalize (W5.setCell ⟨vg2, t * 2, none⟩ (.int .i64 lo)).setCell ⟨vg2, t * 2 + 1, none⟩ (.int .i64 hi) = W6 at HKg hC4 ⊢
           simp only [Act.put, List.setIfInBounds_toArray, List.set_cons_succ, List.set_cons_zero]
           refine Lim.stepD (by kernel_rfl) ?_
           clear hC4 HCF
           have HLH : Hid ((dd.f.getD t (0, 0)).1 ≤ lo ∧ lo ≤ hi ∧ hi ≤ (dd.f.getD t (0, 0)).2) := Lib.hid (by rw [← HSAB.out.1, ← HSAB.out.2]; exact ⟨hlo.1, hhi.1, hhi.2⟩)
           clear hlo hhi hsp
           go_wp2
           go_roundw
           case rel => exact ⟨t + 1, c + 1 + 1, F.set t (lo, hi), by omega, by go_num, Lib.hid (by have := HC0.out; omega), Lib.hid (HNF.out.set hlt HLH.out), Lib.hid (HKg.out.less (fun _ h => h) (List.Sublist.refl _) (.cons _ (List.Sublist.refl _)))⟩
           case measure => simp [intOf]; omega
          ·have hti : ¬ ((t : Int) < (dd.f.length : Int)) := by omega
           clear hlt ht
           have b0 := (box_cell HK.out (cs := #[.slice (some ⟨rg, 0, none⟩) dd.r.length rc]) (t := 41) (p := q9) (j := 0) (by simp) rfl).1
           have b3 := (box_cell HK.out (cs := #[.slice va2 dd.f.length vc2, .slice va5 dd.m.length vc5]) (t := 43) (p := pp) (j := 0) (by simp) rfl).1
           have b4 := (box_cell HK.out (cs := #[.slice va2 dd.f.length vc2, .slice va5 dd.m.length vc5]) (t := 43) (p := pp) (j := 1) (by simp) rfl).1
           go_wp2_with fail
           refine (Readings_any (B := wr.heap.size) (d := withF dd F) (Nat.le_refl _) (HK.out.rsS (v := .slice (some ⟨rg, 0, none⟩) dd.r.length rc) (n := dd.r.length) (l := dd.r) (.inl (by simp)) rfl) (fun a c h => by cases h; exact own_cap (HK.out.r (rwS (.slice (some ⟨rg, 0, none⟩) dd.r.length rc) dd.r.length dd.r) (by simp))) (show RS _ _ _ F.length (spans F) from HK.out.rsS (v := .slice va2 dd.f.length vc2) (n := dd.f.length) (l := F) (.inr (by simp)) HNF.out.len) (HK.out.rsI (v := .slice va5 dd.m.length vc5) (n := dd.m.length) (l := dd.m) (.inr (by simp)) rfl)).mono ?_
           rintro e w9 ⟨rfl, hb⟩
           have HKE := Lib.hid (HK.out.grow hb)
           rw [read_ok (HP.out.fine_err (by omega) HNF.out.len (HNF.out.ok HP.out.spans.2.1))]
           obtain ⟨m1, hm1⟩ : ∃ m1, m1 = total (withF dd F) := ⟨_, rfl⟩
           have hm2 : m1 ≤ su := by rw [hm1, HTT.out]; exact HNF.out.total
           rw [← hm1]
           have dt : decide ((m1 : Int) ≤ (su : Int)) = true := by rw [decide_eq_true_eq]; omega
           have dt2 : decide (m1 ≤ su) = true := by rw [decide_eq_true_eq]; exact hm2
           clear hb HK b0 b3 b4 hm1 hm2 hti
           go_wp2_with fail
           refine (awake_any _).mono ?_
           rintro e wz ⟨rfl, hb⟩
           have HB := Lib.hid (HKE.out.b.trans (hb.mono HKE.out.b.size))
           clear hb
           go_wp2
           go_ret
           exact ⟨rfl, HB.out⟩
end Go.Proofs.Ytobmhamdkngehaa
