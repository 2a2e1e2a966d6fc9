/-
  Parts of the proof, in the order in which they build: PoMend.
-/
import Derived.Deep.CutRange
import Derived.BigQuiet
import Derived.Maps.AppendAt
import Derived.Test.YtobmhamdkngehaaC56
import Derived.Test.YtobmhamdkngehaaA54
import Derived.Test.YtobmhamdkngehaaA44
import Derived.Test.YtobmhamdkngehaaA45
import Derived.Test.YtobmhamdkngehaaA20
import Derived.Test.YtobmhamdkngehaaB10
set_option linter.unusedVariables false
set_option linter.unusedSimpArgs false
namespace Go.Proofs.Ytobmhamdkngehaa
open Go.RowKit Go.Shelf
open Lim

/-- a list is appended to a list -/
theorem Mem.pushL {w : World} {S d c : Nat} {R : List Row} {X : List (Nat × Obj)} {W W' : World} {Q1 Q2 : List Row} {v v' : Value} {A B : List Int} {n : Nat} (H : Mem w S d c R (Q1 ++ rwI v A.length A :: Q2) X W) (hn : n = B.length) (ho : W'.ownsRow S 3 1 v' (A.length + n) (ints A ++ ints B)) (hg : W.grownBy W' v.ownBlock) (hat : v'.ownBlock = v.ownBlock ∨ v'.ownBlock = some W.heap.size) :
    Mem w S d c R (Q1 ++ rwI v' (A ++ B).length (A ++ B) :: Q2) X W' :=
  H.putQ (r := rwI v A.length A) (r' := rwI v' (A ++ B).length (A ++ B)) hg (by
    show W'.ownsRow S 3 1 v' (A ++ B).length (ints (A ++ B))
    rw [show (A ++ B).length = A.length + n by simp [hn], show ints (A ++ B) = ints A ++ ints B by simp [ints]]
    exact ho) (hat.imp id (fun h => ⟨_, h, Nat.le_refl _⟩))
theorem add_mid' (b off j : Nat) : (⟨b, off, none⟩ : Addr).add j = ⟨b, off + j, none⟩ := by unfold Addr.add; split <;> simp_all
set_option maxRecDepth 20000 in
set_option maxHeartbeats 8000000 in
theorem pmended_any {B : Nat} {nv tv0 : Value} {ns ts : List Int} {a0 : Int} {w : World} (hB : B ≤ w.heap.size) (hn : RS B w nv ns.length (u8s ns)) (hnu : ∀ x ∈ ns, 0 ≤ x ∧ x ≤ 255) (ht : RS B w tv0 ts.length (u8s ts)) (htu : ∀ x ∈ ts, 0 ≤ x ∧ x ≤ 255) :
    Calls Try.prog 9 #[nv, tv0, .int .i64 a0] w fun e w' => e = .returned (.bool true) ∧ Below w.heap.size w w' := by
  have HA := Lib.hid (And.intro hB (And.intro hn (And.intro hnu (And.intro ht htu))))
  obtain ⟨na, nc, rfl, -⟩ := hn
  obtain ⟨ua, uc, rfl, -⟩ := ht
  clear hB hnu htu
  go_enter Try.func9, Try.ntmps9
  go_wp2_with fail
  refine (of_dk HA.out.1 HA.out.2.1 HA.out.2.2.1).mono ?_
  rintro e w1 ⟨rfl, hd0, hb1, hs1⟩
  have HD0 := Lib.hid (And.intro hd0 (And.intro hb1 hs1))
  clear hd0 hb1 hs1
  go_wp2_with fail
  refine (of_dk (B := B) (by have h1 := HA.out.1; have h2 := HD0.out.2.1.size; omega) (HA.out.2.2.2.1.below (HD0.out.2.1.mono HA.out.1)) HA.out.2.2.2.2).mono ?_
  rintro e w2 ⟨rfl, hd1, hb2, hs2⟩
  have HD1 := Lib.hid (And.intro hd1 (And.intro hb2 hs2))
  clear hd1 hb2 hs2
  go_wp2_with fail
  refine (pmade_any (M := 10) (d := w.heap.size) (c0 := 0) ((HD0.out.1.below HD1.out.2.1).deck (n := 0) (by omega)) (by omega) (by omega)).mono ?_
  rintro e w3 ⟨av, gv, tv, p, T, c', rfl, hM, -, -, hgr, o1, o2, o3⟩
  have HM := Lib.hid hM
  have HOK : Hid p.Ok := Lib.hid (hM.ok (by omega))
  have HLN := Lib.hid hM.lens
  have HK0 := Lib.hid (Mem.start2 HA.out.1 HA.out.2.2.2.1 HD0.out.2.1 HD0.out.2.2 HD1.out.1 HD1.out.2.1 HD1.out.2.2 (Int.le_refl _) hgr o1 o2 o3)
  obtain ⟨d1, hd1e⟩ : ∃ d1, d1 = w1.heap.size := ⟨_, rfl⟩
  obtain ⟨S, hSe⟩ : ∃ S, S = w2.heap.size := ⟨_, rfl⟩
  rw [← hd1e, ← hSe] at HK0
  obtain ⟨ha, hc, rfl⟩ : ∃ g cap, av = .slice (some ⟨g, 0, none⟩) p.ats.length cap := form_pos (r := rwI av p.ats.length p.ats) o1 (show 0 < p.ats.length by have := HLN.out; omega)
  obtain ⟨ga, gc, rfl⟩ : ∃ g cap, gv = .slice (some ⟨g, 0, none⟩) p.gr.length cap := form_pos (r := rwS gv p.gr.length p.gr) o2 (show 0 < p.gr.length by have := HLN.out; omega)
  obtain ⟨ta, tc, rfl⟩ : ∃ g cap, tv = .slice (some ⟨g, 0, none⟩) T.length cap := form_pos (r := rwI tv T.length T) o3 (show 0 < T.length by have := HLN.out; omega)
  simp only [← hd1e]
  clear hM hgr o1 o2 o3 hd1e hSe HD0 HD1 HA
  go_wp2_with fail
  have HK1 := Lib.hid (HK0.out.lay (.cells #[.slice (some ⟨ha, 0, none⟩) p.ats.length hc, .slice (some ⟨ga, 0, none⟩) p.gr.length gc, .int .i64 p.tall, .int .i64 p.lo, .int .i64 p.hi] 27))
  obtain ⟨q, hqe⟩ : ∃ q, q = w3.heap.size := ⟨_, rfl⟩
  simp only [← hqe] at HK1 ⊢
  generalize w3.alloc (.cells #[.slice (some ⟨ha, 0, none⟩) p.ats.length hc, .slice (some ⟨ga, 0, none⟩) p.gr.length gc, .int .i64 p.tall, .int .i64 p.lo, .int .i64 p.hi] 27) = w4 at HK1 ⊢
  clear HK0 hqe
  obtain ⟨b0, b1, b2, b3, b4⟩ := HK1.out.box5 (q := q) (a := .slice (some ⟨ha, 0, none⟩) p.ats.length hc) (b := .slice (some ⟨ga, 0, none⟩) p.gr.length gc) (e := .int .i64 p.tall) (f := .int .i64 p.lo) (g := .int .i64 p.hi) (t := 27) (by simp)
  obtain ⟨i0, hi, hz0, hz1, hz2⟩ := info_parts Try.infoInt
  have HI := Lib.hid (And.intro hi (And.intro hz0 (And.intro hz1 hz2)))
  clear hi hz0 hz1 hz2
  go_wp2_with fail
  clear b0 b1 b2 b3 b4
  go_loopw [11, 53] (fun lv i W => ∃ (k : Nat) (A : List Int), k ≤ p.ats.length ∧ i = .int .i64 k ∧ Hid (A = (List.range k).map Int.ofNat) ∧ Hid (Mem w S d1 0 [rwI (.slice (some ⟨ha, 0, none⟩) p.ats.length hc) p.ats.length p.ats, rwS (.slice (some ⟨ga, 0, none⟩) p.gr.length gc) p.gr.length p.gr, rwI (.slice (some ⟨ta, 0, none⟩) T.length tc) T.length T] [rwI lv A.length A] [(q, Obj.cells #[.slice (some ⟨ha, 0, none⟩) p.ats.length hc, .slice (some ⟨ga, 0, none⟩) p.gr.length gc, .int .i64 p.tall, .int .i64 p.lo, .int .i64 p.hi] 27 (0, 0))] W)) (fun _ i _ => p.ats.length - (intOf i).toNat)
  case atStart => exact ⟨0, [], Nat.zero_le _, rfl, Lib.hid rfl, Lib.hid (HK1.out.nilQ 3 1)⟩
  case round =>
    as_aux_lemma =>
      clear HK1
      obtain ⟨k, A, hk, rfl, HA, HK⟩ := hrel
      have HAL : Hid (A.length ≤ 40 ∧ A.length = k) := Lib.hid (by rw [HA.out]; have := HLN.out; simp; omega)
      by_cases hlk : k < p.ats.length
      · have hki : (k : Int) < (p.ats.length : Int) := by omega
        have hk40 : k < 40 := by have := HLN.out; omega
        obtain ⟨b0, b1, b2, b3, b4⟩ := HK.out.box5 (q := q) (a := .slice (some ⟨ha, 0, none⟩) p.ats.length hc) (b := .slice (some ⟨ga, 0, none⟩) p.gr.length gc) (e := .int .i64 p.tall) (f := .int .i64 p.lo) (g := .int .i64 p.hi) (t := 27) (by simp)
        go_upto_region 7 with (fail)
        have HOW : Hid ((wr.alloc (.cells #[.int .i64 (k : Int)] 3)).ownsRow S 3 1 u11 A.length (ints A)) := Lib.hid ((HK.out.grow ((Below.refl _ wr).alloc (Nat.le_refl _) (.cells #[.int .i64 k] 3))).q (rwI u11 A.length A) List.mem_cons_self)
        go_wp2_with (at_builtin; refine wpList_append_own_at _ rfl _ _ 22 rfl S 3 i0 (.int .i64 0) 1 8 Try.underlying22 HI.out.1 HI.out.2.1 HI.out.2.2.1 HI.out.2.2.2 rfl (by decide) _ _ _ rfl HOW.out ⟨wr.heap.size, 0, none⟩ 1 1 [.int .i64 k] rfl rfl (cell_one_new _ _ _) (by simp [Value.oneCell']) (by have := HAL.out; unfold maxLen; omega) (by have := HAL.out; omega) ((HK.out.grow ((Below.refl _ wr).alloc (Nat.le_refl _) (.cells #[.int .i64 k] 3))).o.2.2) ?_; intro v' w3' hown3 hgrow _ hat; have HAT := Lib.hid (And.intro hown3 (And.intro hgrow hat)); clear hown3 hgrow hat)
        have H3 := Lib.hid (Mem.push (Q1 := []) (HK.out.grow ((Below.refl _ wr).alloc (Nat.le_refl _) (.cells #[.int .i64 k] 3))) HAT.out.1 HAT.out.2.1 HAT.out.2.2)
        clear HAT HOW
        go_wp2
        go_roundw
        case rel => exact ⟨k + 1, _, by omega, by go_num, Lib.hid (by rw [HA.out, List.range_succ, List.map_append]; rfl), H3⟩
        case measure => simp [intOf]; omega
      · have hke : ¬ ((k : Int) < (p.ats.length : Int)) := by omega
        have hkn : k = p.n := by have := HLN.out; omega
        obtain ⟨hI, hH⟩ := ch_holds HOK.out (ch_all HOK.out)
        rw [← hkn, ← HA.out] at hI hH
        rw [hkn] at hI
        have HIH := Lib.hid (And.intro hI hH)
        have HA2 : Hid (2 ≤ A.length ∧ A.length ≤ 10) := Lib.hid (by have h1 := HAL.out; have h2 := HLN.out; omega)
        have HKf := Lib.hid HK.out.freeze
        clear hI hH HK hlk hk hkn HA
        obtain ⟨lg, lgc, rfl⟩ : ∃ g cap, u11 = .slice (some ⟨g, 0, none⟩) A.length cap := form_pos (r := rwI u11 A.length A) (HKf.out.r _ List.mem_cons_self) (show 0 < A.length by have := HA2.out; omega)
        obtain ⟨kk, hkk⟩ : ∃ kk : Nat, (A.length : Int) - 2 = (kk : Int) := ⟨A.length - 2, by have := HA2.out; omega⟩
        have HKK := Lib.hid hkk
        have ew : IntKind.i64.wrap ((A.length : Int) - 2) = (kk : Int) := by rw [IntWalk.i64_in _ (by have := HA2.out; omega)]; exact hkk
        clear hkk
        go_wp2_with fail
        clear hke ew HAL
        go_loopw [11, 13] (fun lv kv W => ∃ (kk c : Nat) (A : List Int), kv = .int .i64 kk ∧ Hid (kk + 2 ≤ A.length ∧ A.length ≤ 10 ∧ c + kk ≤ 10) ∧ Hid (inAll p.n A = true ∧ holdsP p A = true) ∧ Hid (Mem w S d1 c (rwI lv A.length A :: [rwI (.slice (some ⟨ha, 0, none⟩) p.ats.length hc) p.ats.length p.ats, rwS (.slice (some ⟨ga, 0, none⟩) p.gr.length gc) p.gr.length p.gr, rwI (.slice (some ⟨ta, 0, none⟩) T.length tc) T.length T]) [] [(q, Obj.cells #[.slice (some ⟨ha, 0, none⟩) p.ats.length hc, .slice (some ⟨ga, 0, none⟩) p.gr.length gc, .int .i64 p.tall, .int .i64 p.lo, .int .i64 p.hi] 27 (0, 0))] W)) (fun _ kv _ => (intOf kv).toNat)
        case atStart => exact ⟨kk, 0, A, rfl, Lib.hid (by have h1 := HA2.out; have h2 := HKK.out; omega), HIH, HKf⟩
        case round =>
          as_aux_lemma =>
            clear HKf HIH HA2 HKK
            obtain ⟨kk, c, A, rfl, HC, HIH, HK⟩ := hrel
            obtain ⟨lg, lgc, rfl⟩ : ∃ g cap, u11 = .slice (some ⟨g, 0, none⟩) A.length cap := form_pos (r := rwI u11 A.length A) (HK.out.r _ List.mem_cons_self) (show 0 < A.length by have := HC.out; omega)
            by_cases hk0 : 0 < kk
            · have hki : (0 : Int) < (kk : Int) := by omega
              have hkk10 : kk < 10 := by have := HC.out; omega
              go_wp2_with fail
              refine (kclone_ints (B := wr.heap.size) (l := A) (by have := HC.out; omega) (HK.out.rsI (v := .slice (some ⟨lg, 0, none⟩) A.length lgc) (n := A.length) (.inl List.mem_cons_self) rfl)).mono ?_
              rintro e w5 ⟨v5, rfl, ho5, hb5⟩
              have H5 := Lib.hid (And.intro ho5 hb5)
              clear ho5 hb5
              go_wp2_with fail
              refine (delete_any (base := wr.heap.size) (i := kk) (L := A) (by have := HC.out; omega) (by have := HC.out; omega) H5.out.1).mono ?_
              rintro e w6 ⟨v6, rfl, ho6, hg6⟩
              obtain ⟨F, hF⟩ : ∃ F, F = A.eraseIdx kk := ⟨_, rfl⟩
              rw [← hF] at ho6
              have HF : Hid (F.length + 1 = A.length ∧ inAll p.n F = true) := Lib.hid ⟨by rw [hF, List.length_eraseIdx, if_pos (by have := HC.out; omega)]; have := HC.out; omega, by rw [hF]; exact erase_in HIH.out.1⟩
              have HKb := Lib.hid (HK.out.addR (H5.out.2.grown hg6 H5.out.2.size (fun r e => (owned_block (r := rwI v5 A.length A) H5.out.1 e).1)) (r := rwI v6 F.length F) ho6)
              obtain ⟨fg, fc, rfl⟩ : ∃ g cap, v6 = .slice (some ⟨g, 0, none⟩) F.length cap := form_pos (r := rwI v6 F.length F) ho6 (show 0 < F.length by have := HF.out; have := HC.out; omega)
              clear ho6 hg6 hF HK H5
              obtain ⟨b0, b1, b2, b3, b4⟩ := HKb.out.box5 (q := q) (a := .slice (some ⟨ha, 0, none⟩) p.ats.length hc) (b := .slice (some ⟨ga, 0, none⟩) p.gr.length gc) (e := .int .i64 p.tall) (f := .int .i64 p.lo) (g := .int .i64 p.hi) (t := 27) (by simp)
              go_wp2_with fail
              refine (Holds_any (p := p) (xs := F) (B := w6.heap.size) (Nat.le_refl _) (HKb.out.rsI (v := .slice (some ⟨ha, 0, none⟩) p.ats.length hc) (n := p.ats.length) (l := p.ats) (.inl (by simp)) rfl) (HKb.out.rsS (v := .slice (some ⟨ga, 0, none⟩) p.gr.length gc) (n := p.gr.length) (l := p.gr) (.inl (by simp)) rfl) (HKb.out.rsI (v := .slice (some ⟨fg, 0, none⟩) F.length fc) (n := F.length) (l := F) (.inl List.mem_cons_self) rfl) (by have h1 := HF.out; have h2 := HC.out; omega)).mono ?_
              rintro e w7 ⟨rfl, hb⟩
              have HKd := Lib.hid (HKb.out.grow hb)
              rw [holds_ok HOK.out HF.out.2]
              obtain ⟨hp, hhp⟩ : ∃ b, holdsP p F = b := ⟨_, rfl⟩
              have HHP := Lib.hid hhp
              rw [hhp]
              clear hb hhp HKb b0 b1 b2 b3 b4
              go_upto_region 16 with (fail)
              go_cut [87] from 82 to 86 (fun s87 wx => ∃ (bb : Bool) (c2 : Nat), s87 = .bool bb ∧ Hid (bb = true → holdsP p F = true) ∧ Hid (c2 ≤ c + 1) ∧ Hid (Mem w S d1 c2 (rwI (.slice (some ⟨fg, 0, none⟩) F.length fc) F.length F :: (rwI (.slice (some ⟨lg, 0, none⟩) A.length lgc) A.length A :: [rwI (.slice (some ⟨ha, 0, none⟩) p.ats.length hc) p.ats.length p.ats, rwS (.slice (some ⟨ga, 0, none⟩) p.gr.length gc) p.gr.length p.gr, rwI (.slice (some ⟨ta, 0, none⟩) T.length tc) T.length T])) [] [(q, Obj.cells #[.slice (some ⟨ha, 0, none⟩) p.ats.length hc, .slice (some ⟨ga, 0, none⟩) p.gr.length gc, .int .i64 p.tall, .int .i64 p.lo, .int .i64 p.hi] 27 (0, 0))] wx))
              case first =>
                as_aux_lemma =>
                  cases hp with
                  | false =>
                    go_wp2
                    go_meet
                    case rel => exact ⟨false, c, rfl, Lib.hid (fun h => by cases h), Lib.hid (Nat.le_succ _), HKd⟩
                  | true =>
                    go_wp2_with fail
                    refine (deck_draw (n := 2) HKd.out.dk (by have := HC.out; omega)).mono ?_
                    rintro e W2 ⟨r, rfl, -, hdl⟩
                    have HKa := Lib.hid (HKd.out.dealt hdl)
                    obtain ⟨bb, hbb⟩ : ∃ bb, (r == 0) = bb := ⟨_, rfl⟩
                    clear hdl HKd
                    go_wp2
                    go_meet
                    case rel => exact ⟨bb, c + 1, rfl, Lib.hid (fun _ => HHP.out), Lib.hid (Nat.le_refl _), HKa⟩
              case rest =>
                as_aux_lemma =>
                  obtain ⟨bb, c2, rfl, HBB, HC2, HKe⟩ := hcut
                  clear HKd HHP
                  obtain ⟨k1, hk1⟩ : ∃ k1, k1 = kk - 1 := ⟨_, rfl⟩
                  have HK1' : Hid (k1 + 1 = kk) := Lib.hid (by omega)
                  have ew : IntKind.i64.wrap ((kk : Int) - 1) = (k1 : Int) := by rw [IntWalk.i64_in _ (by omega)]; omega
                  clear hk1
                  cases bb with
                  | true =>
                    go_wp2
                    go_roundw
                    case rel => exact ⟨k1, c2, F, by go_num, Lib.hid (by have h1 := HK1'.out; have h2 := HC2.out; have h3 := HC.out; have h4 := HF.out; omega), Lib.hid ⟨HF.out.2, HBB.out rfl⟩, Lib.hid (HKe.out.less (fun r hr => by
                      rcases List.mem_cons.1 hr with rfl | hr
                      · exact List.mem_cons_self
                      · exact List.mem_cons_of_mem _ (List.mem_cons_of_mem _ hr)) (List.Sublist.refl _) (List.Sublist.refl _))⟩
                    case measure => have := HK1'.out; simp [intOf]; omega
                  | false =>
                    go_wp2
                    go_roundw
                    case rel => exact ⟨k1, c2, A, by go_num, Lib.hid (by have h1 := HK1'.out; have h2 := HC2.out; have h3 := HC.out; omega), HIH, Lib.hid (HKe.out.less (fun _ h => List.mem_cons_of_mem _ h) (List.Sublist.refl _) (List.Sublist.refl _))⟩
                    case measure => have := HK1'.out; simp [intOf]; omega
            · have hke : ¬ ((0 : Int) < (kk : Int)) := by omega
              have HA2 : Hid (2 ≤ A.length ∧ A.length ≤ 10 ∧ c ≤ 10) := Lib.hid (by have := HC.out; omega)
              clear hk0 HC
              obtain ⟨b0, b1, b2, b3, b4⟩ := HK.out.box5 (q := q) (a := .slice (some ⟨ha, 0, none⟩) p.ats.length hc) (b := .slice (some ⟨ga, 0, none⟩) p.gr.length gc) (e := .int .i64 p.tall) (f := .int .i64 p.lo) (g := .int .i64 p.hi) (t := 27) (by simp)
              go_wp2_with fail
              refine (Holds_any (p := p) (xs := A) (B := wr.heap.size) (Nat.le_refl _) (HK.out.rsI (v := .slice (some ⟨ha, 0, none⟩) p.ats.length hc) (n := p.ats.length) (l := p.ats) (.inl (by simp)) rfl) (HK.out.rsS (v := .slice (some ⟨ga, 0, none⟩) p.gr.length gc) (n := p.gr.length) (l := p.gr) (.inl (by simp)) rfl) (HK.out.rsI (v := .slice (some ⟨lg, 0, none⟩) A.length lgc) (n := A.length) (l := A) (.inl List.mem_cons_self) rfl) (by have h1 := HA2.out; omega)).mono ?_
              rintro e w5 ⟨rfl, hb⟩
              have HK2 := Lib.hid (HK.out.grow hb)
              rw [holds_ok HOK.out HIH.out.1, HIH.out.2]
              clear hb HK b0 b1 b2 b3 b4 hke
              obtain ⟨b0, b1, b2, b3, b4⟩ := HK2.out.box5 (q := q) (a := .slice (some ⟨ha, 0, none⟩) p.ats.length hc) (b := .slice (some ⟨ga, 0, none⟩) p.gr.length gc) (e := .int .i64 p.tall) (f := .int .i64 p.lo) (g := .int .i64 p.hi) (t := 27) (by simp)
              have hA2 := Nat.lt_or_ge A.length 3
              rcases hA2 with hA2 | hA2
              · have hA2 : A.length = 2 := by have := HA2.out; omega
                have dA : ((A.length : Int) == 2) = true := by rw [beq_iff_eq]; omega
                have HE2 := Lib.hid hA2
                clear hA2
                go_wp2_with fail
                refine (Mend_any (p := p) (xs := A) (lost := 1) (B := w5.heap.size) (Nat.le_refl _) (HK2.out.rsI (v := .slice (some ⟨ha, 0, none⟩) p.ats.length hc) (n := p.ats.length) (l := p.ats) (.inl (by simp)) rfl) (HK2.out.rsS (v := .slice (some ⟨ga, 0, none⟩) p.gr.length gc) (n := p.gr.length) (l := p.gr) (.inl (by simp)) rfl) (HK2.out.rsI (v := .slice (some ⟨lg, 0, none⟩) A.length lgc) (n := A.length) (l := A) (.inl List.mem_cons_self) rfl) (fun a c h => by cases h; exact own_cap (HK2.out.r (rwI (.slice (some ⟨lg, 0, none⟩) A.length lgc) A.length A) List.mem_cons_self)) (by have := HA2.out; omega)).mono ?_
                rintro e w6 h
                obtain ⟨v6, rfl, hb⟩ := mend_two HOK.out HIH.out.1 HIH.out.2 HE2.out h
                have HK3 := Lib.hid (HK2.out.grow hb)
                clear h hb HK2 b0 b1 b2 b3 b4 dA
                go_wp2_with fail
                refine (awake_any _).mono ?_
                rintro e wz ⟨rfl, hb⟩
                have HB := Lib.hid (HK3.out.b.trans (hb.mono HK3.out.b.size))
                clear hb
                go_wp2
                go_ret
                exact ⟨rfl, HB.out⟩
              · have dA : ((A.length : Int) == 2) = false := by rw [beq_eq_false_iff_ne]; omega
                have hA3 : 3 ≤ A.length := by have := HA2.out; omega
                have hA10 : (A.length : Int) ≤ 10 := by have := HA2.out; omega
                clear b0 b1 b2 b3 b4 hA2
                have ew : IntKind.i64.wrap ((A.length : Int) - 2) = (A.length : Int) - 2 := IntWalk.i64_in _ (by omega)
                go_wp2_with fail
                refine (fold_any (v := a0) (n := (A.length : Int) - 2) w5 (by omega)).mono ?_
                rintro e w' ⟨r, rfl, hr, hw⟩
                rw [hw]
                clear hw
                obtain ⟨k, hk⟩ : ∃ k : Nat, 1 + r = (k : Int) := ⟨(1 + r).toNat, by omega⟩
                have ewk : IntKind.i64.wrap (1 + r) = (k : Int) := by rw [IntWalk.i64_in _ (by omega)]; exact hk
                obtain ⟨L, hA, hL⟩ := holds_ch HOK.out HIH.out.1 HIH.out.2
                obtain ⟨k0, k2, xa, xb, xc, h3⟩ := mid3 hA hL (k := k) (by omega)
                have H3 := Lib.hid h3
                have hk10 : k < 10 := by have := h3.lt; have := h3.i2; omega
                have hA40 : A.length < 40 := by omega
                clear hk hA hL h3 hr dA ew
                obtain ⟨b0, b1, b2, b3, b4⟩ := HK2.out.box5 (q := q) (a := .slice (some ⟨ha, 0, none⟩) p.ats.length hc) (b := .slice (some ⟨ga, 0, none⟩) p.gr.length gc) (e := .int .i64 p.tall) (f := .int .i64 p.lo) (g := .int .i64 p.hi) (t := 27) (by simp)
                go_wp2_with fail
                clear ewk
                refine (Mend_any (p := p) (xs := A) (lost := (k : Int)) (B := w5.heap.size) (Nat.le_refl _) (HK2.out.rsI (v := .slice (some ⟨ha, 0, none⟩) p.ats.length hc) (n := p.ats.length) (l := p.ats) (.inl (by simp)) rfl) (HK2.out.rsS (v := .slice (some ⟨ga, 0, none⟩) p.gr.length gc) (n := p.gr.length) (l := p.gr) (.inl (by simp)) rfl) (HK2.out.rsI (v := .slice (some ⟨lg, 0, none⟩) A.length lgc) (n := A.length) (l := A) (.inl List.mem_cons_self) rfl) (fun a c h => by cases h; exact own_cap (HK2.out.r (rwI (.slice (some ⟨lg, 0, none⟩) A.length lgc) A.length A) List.mem_cons_self)) (by have := HA2.out; omega)).mono ?_
                rintro e w6 h
                rw [H3.out.hA] at h
                obtain ⟨v6, er, rfl, hb, hm⟩ := mend_mid HOK.out H3.out.hL ⟨by have := H3.out.i0; omega, by have h1 := H3.out.lt; have h2 := H3.out.i2; have h3 := H3.out.ll; omega⟩ h
                unfold MidAns at hm
                rw [H3.out.ea, H3.out.eb, H3.out.ec] at hm
                clear h b0 b1 b2 b3 b4
                rcases hm with ⟨rfl, hs, hx⟩ | ⟨rfl, R, hoR, hR⟩
                · have H7 := Lib.hid (And.intro hs hx)
                  have HK3 := Lib.hid (HK2.out.grow hb)
                  clear hs hx hb HK2
                  have hi0 : (k0 : Int) < (A.length : Int) := by have h1 := H3.out.lt; have h2 := H3.out.i2; have h3 := H3.out.i0; omega
                  have hi1 : (k : Int) < (A.length : Int) := by have h1 := H3.out.lt; have h2 := H3.out.i2; omega
                  have hi2 : (k2 : Int) < (A.length : Int) := by have h1 := H3.out.lt; omega
                  have ek0 : IntKind.i64.wrap ((k : Int) - 1) = (k0 : Int) := by rw [IntWalk.i64_in _ (by omega)]; have := H3.out.i0; omega
                  have ek2 : IntKind.i64.wrap ((k : Int) + 1) = (k2 : Int) := by rw [IntWalk.i64_in _ (by omega)]; have := H3.out.i2; omega
                  have hx45 : xa < 45 ∧ xc < 45 := by have h1 := H3.out.ab; have h2 := H3.out.bc; have h3 := H3.out.cn; have h4 := HLN.out; omega
                  have q0 := HK3.out.cellI (g := lg) (n := A.length) (cap := lgc) (l := A) (.inl (by simp)) (j := k0) (by have h1 := H3.out.lt; have h2 := H3.out.i2; have h3 := H3.out.i0; omega)
                  rw [H3.out.ga] at q0
                  have q1 := HK3.out.cellI (g := lg) (n := A.length) (cap := lgc) (l := A) (.inl (by simp)) (j := k) (by have h1 := H3.out.lt; have h2 := H3.out.i2; have h3 := H3.out.i0; omega)
                  rw [H3.out.gb] at q1
                  have q2 := HK3.out.cellI (g := lg) (n := A.length) (cap := lgc) (l := A) (.inl (by simp)) (j := k2) (by have h1 := H3.out.lt; have h2 := H3.out.i2; have h3 := H3.out.i0; omega)
                  rw [H3.out.gc] at q2
                  go_wp2_with fail
                  clear q0 q1 q2 hi0 hi1 hi2 ek0 ek2
                  go_loopw [23] (fun tv W => ∃ x : Nat, tv = .int .i64 x ∧ Hid (xa < x ∧ x ≤ xc) ∧ Hid (Mem w S d1 c (rwI (.slice (some ⟨lg, 0, none⟩) A.length lgc) A.length A :: [rwI (.slice (some ⟨ha, 0, none⟩) p.ats.length hc) p.ats.length p.ats, rwS (.slice (some ⟨ga, 0, none⟩) p.gr.length gc) p.gr.length p.gr, rwI (.slice (some ⟨ta, 0, none⟩) T.length tc) T.length T]) [] [(q, Obj.cells #[.slice (some ⟨ha, 0, none⟩) p.ats.length hc, .slice (some ⟨ga, 0, none⟩) p.gr.length gc, .int .i64 p.tall, .int .i64 p.lo, .int .i64 p.hi] 27 (0, 0))] W)) (fun tv _ => xc - (intOf tv).toNat)
                  case atStart => exact ⟨xa + 1, by go_num, Lib.hid (by have h1 := H3.out.ab; have h2 := H3.out.bc; omega), HK3⟩
                  case round =>
                    as_aux_lemma =>
                      clear HK3
                      obtain ⟨x, rfl, HX, HK⟩ := hrel
                      have hi0 : (k0 : Int) < (A.length : Int) := by have h1 := H3.out.lt; have h2 := H3.out.i2; have h3 := H3.out.i0; omega
                      have hi1 : (k : Int) < (A.length : Int) := by have h1 := H3.out.lt; have h2 := H3.out.i2; omega
                      have hi2 : (k2 : Int) < (A.length : Int) := by have h1 := H3.out.lt; omega
                      have ek0 : IntKind.i64.wrap ((k : Int) - 1) = (k0 : Int) := by rw [IntWalk.i64_in _ (by omega)]; have := H3.out.i0; omega
                      have ek2 : IntKind.i64.wrap ((k : Int) + 1) = (k2 : Int) := by rw [IntWalk.i64_in _ (by omega)]; have := H3.out.i2; omega
                      have hx45 : xa < 45 ∧ xc < 45 := by have h1 := H3.out.ab; have h2 := H3.out.bc; have h3 := H3.out.cn; have h4 := HLN.out; omega
                      have q0 := HK.out.cellI (g := lg) (n := A.length) (cap := lgc) (l := A) (.inl (by simp)) (j := k0) (by have h1 := H3.out.lt; have h2 := H3.out.i2; have h3 := H3.out.i0; omega)
                      rw [H3.out.ga] at q0
                      have q1 := HK.out.cellI (g := lg) (n := A.length) (cap := lgc) (l := A) (.inl (by simp)) (j := k) (by have h1 := H3.out.lt; have h2 := H3.out.i2; have h3 := H3.out.i0; omega)
                      rw [H3.out.gb] at q1
                      have q2 := HK.out.cellI (g := lg) (n := A.length) (cap := lgc) (l := A) (.inl (by simp)) (j := k2) (by have h1 := H3.out.lt; have h2 := H3.out.i2; have h3 := H3.out.i0; omega)
                      rw [H3.out.gc] at q2
                      by_cases hxc : x < xc
                      · have hxi : (x : Int) < (xc : Int) := by omega
                        by_cases hxb : x = xb
                        · have de : ((x : Int) == (xb : Int)) = true := by rw [beq_iff_eq]; omega
                          clear hxb
                          go_wp2
                          go_roundw
                          case rel => exact ⟨x + 1, by go_num, Lib.hid (by have h1 := HX.out; omega), HK⟩
                          case measure => simp [intOf]; omega
                        · have de : ((x : Int) == (xb : Int)) = false := by rw [beq_eq_false_iff_ne]; omega
                          have HXB := Lib.hid hxb
                          clear hxb
                          go_upto_region 33 with (fail)
                          clear de
                          have HKz := Lib.hid HK.out.drew
                          have hC : (fun W => (W.cell? ⟨q, 0, none⟩ = some (.slice (some ⟨ha, 0, none⟩) p.ats.length hc) ∧ W.cell? ⟨q, 1, none⟩ = some (.slice (some ⟨ga, 0, none⟩) p.gr.length gc) ∧ W.cell? ⟨q, 2, none⟩ = some (.int .i64 p.tall) ∧ W.cell? ⟨q, 3, none⟩ = some (.int .i64 p.lo) ∧ W.cell? ⟨q, 4, none⟩ = some (.int .i64 p.hi)) ∧ W.cell? ⟨lg, k0, none⟩ = some (.int .i64 (xa : Int))) wr.drew := ⟨(HKz.out.box5 (q := q) (a := .slice (some ⟨ha, 0, none⟩) p.ats.length hc) (b := .slice (some ⟨ga, 0, none⟩) p.gr.length gc) (e := .int .i64 p.tall) (f := .int .i64 p.lo) (g := .int .i64 p.hi) (t := 27) (by simp)), by simpa using q0⟩
                          clear HK q0
                          generalize hW0 : wr.drew = W1 at HKz hC
                          refine Lim.regC' (fun W => (W.cell? ⟨q, 0, none⟩ = some (.slice (some ⟨ha, 0, none⟩) p.ats.length hc) ∧ W.cell? ⟨q, 1, none⟩ = some (.slice (some ⟨ga, 0, none⟩) p.gr.length gc) ∧ W.cell? ⟨q, 2, none⟩ = some (.int .i64 p.tall) ∧ W.cell? ⟨q, 3, none⟩ = some (.int .i64 p.lo) ∧ W.cell? ⟨q, 4, none⟩ = some (.int .i64 p.hi)) ∧ W.cell? ⟨lg, k0, none⟩ = some (.int .i64 (xa : Int))) [] #[false, false, false, false, false, false, false, false, false, false, false, false, false, false, false] (by kernel_rfl) rfl ?_
                          rw [hW0]; clear hW0
                          refine Lim.stepR 0 (fun _ => trivial) rfl (by kernel_rfl) (fun _ _ _ _ h => h) hC rfl ?_; apply Exists.intro; refine ⟨?_, ?_⟩
                          · rintro w ⟨⟨r0, r1, r2, r3, r4⟩, s0⟩; go_simp; try with_reducible rfl
                          simp only [Act.put, List.setIfInBounds_toArray, List.set_cons_succ, List.set_cons_zero]
                          refine Lim.stepR 1 (fun _ => trivial) rfl (by kernel_rfl) (fun _ _ _ _ h => h) hC rfl ?_; apply Exists.intro; refine ⟨?_, ?_⟩
                          · rintro w ⟨⟨r0, r1, r2, r3, r4⟩, s0⟩; go_simp; try with_reducible rfl
                          simp only [Act.put, List.setIfInBounds_toArray, List.set_cons_succ, List.set_cons_zero]
                          refine Lim.stepR 2 (fun _ => trivial) rfl (by kernel_rfl) (fun _ _ _ _ h => h) hC rfl ?_; apply Exists.intro; refine ⟨?_, ?_⟩
                          · rintro w ⟨⟨r0, r1, r2, r3, r4⟩, s0⟩; go_simp; try with_reducible rfl
                          simp only [Act.put, List.setIfInBounds_toArray, List.set_cons_succ, List.set_cons_zero]
                          refine Lim.stepR 3 (fun _ => trivial) rfl (by kernel_rfl) (fun _ _ _ _ h => h) hC rfl ?_; apply Exists.intro; refine ⟨?_, ?_⟩
                          · rintro w ⟨⟨r0, r1, r2, r3, r4⟩, s0⟩; go_simp; try with_reducible rfl
                          simp only [Act.put, List.setIfInBounds_toArray, List.set_cons_succ, List.set_cons_zero]
                          refine Lim.stepR 4 (fun _ => trivial) rfl (by kernel_rfl) (fun _ _ _ _ h => h) hC rfl ?_; apply Exists.intro; refine ⟨?_, ?_⟩
                          · rintro w ⟨⟨r0, r1, r2, r3, r4⟩, s0⟩; go_simp; try with_reducible rfl
                          simp only [Act.put, List.setIfInBounds_toArray, List.set_cons_succ, List.set_cons_zero]
                          refine Lim.stepR 5 (fun _ => trivial) rfl (by kernel_rfl) (fun _ _ _ _ h => h) hC rfl ?_; apply Exists.intro; refine ⟨?_, ?_⟩
                          · rintro w ⟨⟨r0, r1, r2, r3, r4⟩, s0⟩; go_simp; try with_reducible rfl
                          simp only [Act.put, List.setIfInBounds_toArray, List.set_cons_succ, List.set_cons_zero]
                          refine Lim.stepR 6 (fun _ => trivial) rfl (by kernel_rfl) (fun _ _ _ _ h => h) hC rfl ?_; apply Exists.intro; refine ⟨?_, ?_⟩
                          · rintro w ⟨⟨r0, r1, r2, r3, r4⟩, s0⟩; go_simp; try with_reducible rfl
                          simp only [Act.put, List.setIfInBounds_toArray, List.set_cons_succ, List.set_cons_zero]
                          refine Lim.stepE 7 (fun _ => trivial) rfl (by kernel_rfl) rfl (fun K hK => ?_)   -- E call
                          go_simp
                          refine ⟨rfl, (callsIn_wide.2 (Sees_any (p := p) (i := (xa : Int)) (j := (x : Int)) (B := W1.heap.size) (Nat.le_refl _) (HKz.out.rsI (v := .slice (some ⟨ha, 0, none⟩) p.ats.length hc) (n := p.ats.length) (l := p.ats) (.inl (by simp)) rfl) (HKz.out.rsS (v := .slice (some ⟨ga, 0, none⟩) p.gr.length gc) (n := p.gr.length) (l := p.gr) (.inl (by simp)) rfl))).mono ?_⟩
                          rintro e W2 ⟨rfl, hb⟩
                          have HKe := Lib.hid (HKz.out.grow hb)
                          have hC2 : (fun W => (W.cell? ⟨q, 0, none⟩ = some (.slice (some ⟨ha, 0, none⟩) p.ats.length hc) ∧ W.cell? ⟨q, 1, none⟩ = some (.slice (some ⟨ga, 0, none⟩) p.gr.length gc) ∧ W.cell? ⟨q, 2, none⟩ = some (.int .i64 p.tall) ∧ W.cell? ⟨q, 3, none⟩ = some (.int .i64 p.lo) ∧ W.cell? ⟨q, 4, none⟩ = some (.int .i64 p.hi)) ∧ W.cell? ⟨lg, k0, none⟩ = some (.int .i64 (xa : Int))) W2 := ⟨⟨hb.on hC.1.1, hb.on hC.1.2.1, hb.on hC.1.2.2.1, hb.on hC.1.2.2.2.1, hb.on hC.1.2.2.2.2⟩, hb.on hC.2⟩
                          rw [sees_ok HOK.out (by have h1 := H3.out.ab; have h2 := H3.out.bc; have h3 := H3.out.cn; have h4 := HX.out; omega) (by have h1 := H3.out.ab; have h2 := H3.out.bc; have h3 := H3.out.cn; have h4 := HX.out; omega) (by have h1 := H3.out.ab; have h2 := H3.out.bc; have h3 := H3.out.cn; have h4 := HX.out; omega)]
                          refine hK _ _ hC2 ?_
                          clear hK hb HKz hC
                          simp only [Act.put, List.setIfInBounds_toArray, List.set_cons_succ, List.set_cons_zero]
                          refine Lim.stepR 8 (fun _ => trivial) rfl (by kernel_rfl) (fun _ _ _ _ h => h) hC2 rfl ?_; apply Exists.intro; refine ⟨?_, ?_⟩
                          · rintro w ⟨⟨r0, r1, r2, r3, r4⟩, s0⟩; go_simp; try with_reducible rfl
                          simp only [Act.put, List.setIfInBounds_toArray, List.set_cons_succ, List.set_cons_zero]
                          refine Lim.stepR 9 (fun _ => trivial) rfl (by kernel_rfl) (fun _ _ _ _ h => h) hC2 rfl ?_; apply Exists.intro; refine ⟨?_, ?_⟩
                          · rintro w ⟨⟨r0, r1, r2, r3, r4⟩, s0⟩; go_simp; try with_reducible rfl
                          simp only [Act.put, List.setIfInBounds_toArray, List.set_cons_succ, List.set_cons_zero]
                          refine Lim.stepR 10 (fun _ => trivial) rfl (by kernel_rfl) (fun _ _ _ _ h => h) hC2 rfl ?_; apply Exists.intro; refine ⟨?_, ?_⟩
                          · rintro w ⟨⟨r0, r1, r2, r3, r4⟩, s0⟩; go_simp; try with_reducible rfl
                          simp only [Act.put, List.setIfInBounds_toArray, List.set_cons_succ, List.set_cons_zero]
                          refine Lim.stepR 11 (fun _ => trivial) rfl (by kernel_rfl) (fun _ _ _ _ h => h) hC2 rfl ?_; apply Exists.intro; refine ⟨?_, ?_⟩
                          · rintro w ⟨⟨r0, r1, r2, r3, r4⟩, s0⟩; go_simp; try with_reducible rfl
                          simp only [Act.put, List.setIfInBounds_toArray, List.set_cons_succ, List.set_cons_zero]
                          refine Lim.stepR 12 (fun _ => trivial) rfl (by kernel_rfl) (fun _ _ _ _ h => h) hC2 rfl ?_; apply Exists.intro; refine ⟨?_, ?_⟩
                          · rintro w ⟨⟨r0, r1, r2, r3, r4⟩, s0⟩; go_simp; try with_reducible rfl
                          simp only [Act.put, List.setIfInBounds_toArray, List.set_cons_succ, List.set_cons_zero]
                          refine Lim.stepR 13 (fun _ => trivial) rfl (by kernel_rfl) (fun _ _ _ _ h => h) hC2 rfl ?_; apply Exists.intro; refine ⟨?_, ?_⟩
                          · rintro w ⟨⟨r0, r1, r2, r3, r4⟩, s0⟩; go_simp; try with_reducible rfl
                          simp only [Act.put, List.setIfInBounds_toArray, List.set_cons_succ, List.set_cons_zero]
                          refine Lim.stepR 14 (fun _ => trivial) rfl (by kernel_rfl) (fun _ _ _ _ h => h) hC2 rfl ?_; apply Exists.intro; refine ⟨?_, ?_⟩
                          · rintro w ⟨⟨r0, r1, r2, r3, r4⟩, s0⟩; go_simp; try with_reducible rfl
                          simp only [Act.put, List.setIfInBounds_toArray, List.set_cons_succ, List.set_cons_zero]
                          refine Lim.stepD (by kernel_rfl) ?_
                          clear hC2
                          clear hi0 ek0
                          go_upto_region 34 with (fail)
                          have q2' := HKe.out.cellI (g := lg) (n := A.length) (cap := lgc) (l := A) (.inl (by simp)) (j := k2) (by have h1 := H3.out.lt; omega)
                          rw [H3.out.gc] at q2'
                          clear q1 q2
                          have HKz := Lib.hid HKe.out.drew
                          have hC : (fun W => (W.cell? ⟨q, 0, none⟩ = some (.slice (some ⟨ha, 0, none⟩) p.ats.length hc) ∧ W.cell? ⟨q, 1, none⟩ = some (.slice (some ⟨ga, 0, none⟩) p.gr.length gc) ∧ W.cell? ⟨q, 2, none⟩ = some (.int .i64 p.tall) ∧ W.cell? ⟨q, 3, none⟩ = some (.int .i64 p.lo) ∧ W.cell? ⟨q, 4, none⟩ = some (.int .i64 p.hi)) ∧ W.cell? ⟨lg, k2, none⟩ = some (.int .i64 (xc : Int))) W2.drew := ⟨(HKz.out.box5 (q := q) (a := .slice (some ⟨ha, 0, none⟩) p.ats.length hc) (b := .slice (some ⟨ga, 0, none⟩) p.gr.length gc) (e := .int .i64 p.tall) (f := .int .i64 p.lo) (g := .int .i64 p.hi) (t := 27) (by simp)), by simpa using q2'⟩
                          clear HKe q2'
                          generalize hW0 : W2.drew = W3 at HKz hC
                          refine Lim.regC' (fun W => (W.cell? ⟨q, 0, none⟩ = some (.slice (some ⟨ha, 0, none⟩) p.ats.length hc) ∧ W.cell? ⟨q, 1, none⟩ = some (.slice (some ⟨ga, 0, none⟩) p.gr.length gc) ∧ W.cell? ⟨q, 2, none⟩ = some (.int .i64 p.tall) ∧ W.cell? ⟨q, 3, none⟩ = some (.int .i64 p.lo) ∧ W.cell? ⟨q, 4, none⟩ = some (.int .i64 p.hi)) ∧ W.cell? ⟨lg, k2, none⟩ = some (.int .i64 (xc : Int))) [] #[false, false, false, false, false, false, false, false, false, false, false, false, false, false, false] (by kernel_rfl) rfl ?_
                          rw [hW0]; clear hW0
                          refine Lim.stepR 0 (fun _ => trivial) rfl (by kernel_rfl) (fun _ _ _ _ h => h) hC rfl ?_; apply Exists.intro; refine ⟨?_, ?_⟩
                          · rintro w ⟨⟨r0, r1, r2, r3, r4⟩, s0⟩; go_simp; try with_reducible rfl
                          simp only [Act.put, List.setIfInBounds_toArray, List.set_cons_succ, List.set_cons_zero]
                          refine Lim.stepR 1 (fun _ => trivial) rfl (by kernel_rfl) (fun _ _ _ _ h => h) hC rfl ?_; apply Exists.intro; refine ⟨?_, ?_⟩
                          · rintro w ⟨⟨r0, r1, r2, r3, r4⟩, s0⟩; go_simp; try with_reducible rfl
                          simp only [Act.put, List.setIfInBounds_toArray, List.set_cons_succ, List.set_cons_zero]
                          refine Lim.stepR 2 (fun _ => trivial) rfl (by kernel_rfl) (fun _ _ _ _ h => h) hC rfl ?_; apply Exists.intro; refine ⟨?_, ?_⟩
                          · rintro w ⟨⟨r0, r1, r2, r3, r4⟩, s0⟩; go_simp; try with_reducible rfl
                          simp only [Act.put, List.setIfInBounds_toArray, List.set_cons_succ, List.set_cons_zero]
                          refine Lim.stepR 3 (fun _ => trivial) rfl (by kernel_rfl) (fun _ _ _ _ h => h) hC rfl ?_; apply Exists.intro; refine ⟨?_, ?_⟩
                          · rintro w ⟨⟨r0, r1, r2, r3, r4⟩, s0⟩; go_simp; try with_reducible rfl
                          simp only [Act.put, List.setIfInBounds_toArray, List.set_cons_succ, List.set_cons_zero]
                          refine Lim.stepR 4 (fun _ => trivial) rfl (by kernel_rfl) (fun _ _ _ _ h => h) hC rfl ?_; apply Exists.intro; refine ⟨?_, ?_⟩
                          · rintro w ⟨⟨r0, r1, r2, r3, r4⟩, s0⟩; go_simp; try with_reducible rfl
                          simp only [Act.put, List.setIfInBounds_toArray, List.set_cons_succ, List.set_cons_zero]
                          refine Lim.stepR 5 (fun _ => trivial) rfl (by kernel_rfl) (fun _ _ _ _ h => h) hC rfl ?_; apply Exists.intro; refine ⟨?_, ?_⟩
                          · rintro w ⟨⟨r0, r1, r2, r3, r4⟩, s0⟩; go_simp; try with_reducible rfl
                          simp only [Act.put, List.setIfInBounds_toArray, List.set_cons_succ, List.set_cons_zero]
                          refine Lim.stepR 6 (fun _ => trivial) rfl (by kernel_rfl) (fun _ _ _ _ h => h) hC rfl ?_; apply Exists.intro; refine ⟨?_, ?_⟩
                          · rintro w ⟨⟨r0, r1, r2, r3, r4⟩, s0⟩; go_simp; try with_reducible rfl
                          simp only [Act.put, List.setIfInBounds_toArray, List.set_cons_succ, List.set_cons_zero]
                          refine Lim.stepE 7 (fun _ => trivial) rfl (by kernel_rfl) rfl (fun K hK => ?_)   -- E call
                          go_simp
                          refine ⟨rfl, (callsIn_wide.2 (Sees_any (p := p) (i := (x : Int)) (j := (xc : Int)) (B := W3.heap.size) (Nat.le_refl _) (HKz.out.rsI (v := .slice (some ⟨ha, 0, none⟩) p.ats.length hc) (n := p.ats.length) (l := p.ats) (.inl (by simp)) rfl) (HKz.out.rsS (v := .slice (some ⟨ga, 0, none⟩) p.gr.length gc) (n := p.gr.length) (l := p.gr) (.inl (by simp)) rfl))).mono ?_⟩
                          rintro e W4 ⟨rfl, hb⟩
                          have HKf := Lib.hid (HKz.out.grow hb)
                          have hC2 : (fun W => (W.cell? ⟨q, 0, none⟩ = some (.slice (some ⟨ha, 0, none⟩) p.ats.length hc) ∧ W.cell? ⟨q, 1, none⟩ = some (.slice (some ⟨ga, 0, none⟩) p.gr.length gc) ∧ W.cell? ⟨q, 2, none⟩ = some (.int .i64 p.tall) ∧ W.cell? ⟨q, 3, none⟩ = some (.int .i64 p.lo) ∧ W.cell? ⟨q, 4, none⟩ = some (.int .i64 p.hi)) ∧ W.cell? ⟨lg, k2, none⟩ = some (.int .i64 (xc : Int))) W4 := ⟨⟨hb.on hC.1.1, hb.on hC.1.2.1, hb.on hC.1.2.2.1, hb.on hC.1.2.2.2.1, hb.on hC.1.2.2.2.2⟩, hb.on hC.2⟩
                          rw [sees_ok HOK.out (by have h1 := H3.out.ab; have h2 := H3.out.bc; have h3 := H3.out.cn; have h4 := HX.out; omega) (by have h1 := H3.out.ab; have h2 := H3.out.bc; have h3 := H3.out.cn; have h4 := HX.out; omega) (by have h1 := H3.out.ab; have h2 := H3.out.bc; have h3 := H3.out.cn; have h4 := HX.out; omega)]
                          refine hK _ _ hC2 ?_
                          clear hK hb HKz hC
                          simp only [Act.put, List.setIfInBounds_toArray, List.set_cons_succ, List.set_cons_zero]
                          refine Lim.stepR 8 (fun _ => trivial) rfl (by kernel_rfl) (fun _ _ _ _ h => h) hC2 rfl ?_; apply Exists.intro; refine ⟨?_, ?_⟩
                          · rintro w ⟨⟨r0, r1, r2, r3, r4⟩, s0⟩; go_simp; try with_reducible rfl
                          simp only [Act.put, List.setIfInBounds_toArray, List.set_cons_succ, List.set_cons_zero]
                          refine Lim.stepR 9 (fun _ => trivial) rfl (by kernel_rfl) (fun _ _ _ _ h => h) hC2 rfl ?_; apply Exists.intro; refine ⟨?_, ?_⟩
                          · rintro w ⟨⟨r0, r1, r2, r3, r4⟩, s0⟩; go_simp; try with_reducible rfl
                          simp only [Act.put, List.setIfInBounds_toArray, List.set_cons_succ, List.set_cons_zero]
                          refine Lim.stepR 10 (fun _ => trivial) rfl (by kernel_rfl) (fun _ _ _ _ h => h) hC2 rfl ?_; apply Exists.intro; refine ⟨?_, ?_⟩
                          · rintro w ⟨⟨r0, r1, r2, r3, r4⟩, s0⟩; go_simp; try with_reducible rfl
                          simp only [Act.put, List.setIfInBounds_toArray, List.set_cons_succ, List.set_cons_zero]
                          refine Lim.stepR 11 (fun _ => trivial) rfl (by kernel_rfl) (fun _ _ _ _ h => h) hC2 rfl ?_; apply Exists.intro; refine ⟨?_, ?_⟩
                          · rintro w ⟨⟨r0, r1, r2, r3, r4⟩, s0⟩; go_simp; try with_reducible rfl
                          simp only [Act.put, List.setIfInBounds_toArray, List.set_cons_succ, List.set_cons_zero]
                          refine Lim.stepR 12 (fun _ => trivial) rfl (by kernel_rfl) (fun _ _ _ _ h => h) hC2 rfl ?_; apply Exists.intro; refine ⟨?_, ?_⟩
                          · rintro w ⟨⟨r0, r1, r2, r3, r4⟩, s0⟩; go_simp; try with_reducible rfl
                          simp only [Act.put, List.setIfInBounds_toArray, List.set_cons_succ, List.set_cons_zero]
                          refine Lim.stepR 13 (fun _ => trivial) rfl (by kernel_rfl) (fun _ _ _ _ h => h) hC2 rfl ?_; apply Exists.intro; refine ⟨?_, ?_⟩
                          · rintro w ⟨⟨r0, r1, r2, r3, r4⟩, s0⟩; go_simp; try with_reducible rfl
                          simp only [Act.put, List.setIfInBounds_toArray, List.set_cons_succ, List.set_cons_zero]
                          refine Lim.stepR 14 (fun _ => trivial) rfl (by kernel_rfl) (fun _ _ _ _ h => h) hC2 rfl ?_; apply Exists.intro; refine ⟨?_, ?_⟩
                          · rintro w ⟨⟨r0, r1, r2, r3, r4⟩, s0⟩; go_simp; try with_reducible rfl
                          simp only [Act.put, List.setIfInBounds_toArray, List.set_cons_succ, List.set_cons_zero]
                          refine Lim.stepD (by kernel_rfl) ?_
                          clear hC2
                          clear hi1 hi2 ek2
                          have HSS : Hid ((p.sure xa x && p.sure x xc) = false) := Lib.hid (H7.out.2 x HX.out.1 hxc HXB.out)
                          obtain ⟨s1, hs1⟩ : ∃ b, p.sure xa x = b := ⟨_, rfl⟩
                          obtain ⟨s2, hs2⟩ : ∃ b, p.sure x xc = b := ⟨_, rfl⟩
                          rw [hs1, hs2] at HSS
                          simp only [hs1, hs2]
                          clear hs1 hs2
                          go_upto_region 35 with (fail)
                          go_cut [188] from 177 to 187 (fun s188 wx => s188 = .bool false ∧ Hid (Mem w S d1 c (rwI (.slice (some ⟨lg, 0, none⟩) A.length lgc) A.length A :: [rwI (.slice (some ⟨ha, 0, none⟩) p.ats.length hc) p.ats.length p.ats, rwS (.slice (some ⟨ga, 0, none⟩) p.gr.length gc) p.gr.length p.gr, rwI (.slice (some ⟨ta, 0, none⟩) T.length tc) T.length T]) [] [(q, Obj.cells #[.slice (some ⟨ha, 0, none⟩) p.ats.length hc, .slice (some ⟨ga, 0, none⟩) p.gr.length gc, .int .i64 p.tall, .int .i64 p.lo, .int .i64 p.hi] 27 (0, 0))] wx))
                          case first =>
                            as_aux_lemma =>
                              cases s1 with
                              | false =>
                                go_wp2
                                go_meet
                                case rel => exact ⟨rfl, HKf⟩
                              | true =>
                                cases s2 with
                                | false =>
                                  go_wp2
                                  go_meet
                                  case rel => exact ⟨rfl, HKf⟩
                                | true => exact absurd HSS.out (by decide)
                          case rest =>
                            as_aux_lemma =>
                              obtain ⟨rfl, HKg⟩ := hcut
                              clear HKf HSS
                              go_wp2
                              go_roundw
                              case rel => exact ⟨x + 1, by go_num, Lib.hid (by have h1 := HX.out; omega), HKg⟩
                              case measure => simp [intOf]; omega
                      · have hxi : ¬ ((x : Int) < (xc : Int)) := by omega
                        clear hxc HX
                        go_upto_region 37 with (fail)
                        clear hxi
                        have HKz := Lib.hid HK.out.drew
                        have hC : (fun W => (W.cell? ⟨q, 0, none⟩ = some (.slice (some ⟨ha, 0, none⟩) p.ats.length hc) ∧ W.cell? ⟨q, 1, none⟩ = some (.slice (some ⟨ga, 0, none⟩) p.gr.length gc) ∧ W.cell? ⟨q, 2, none⟩ = some (.int .i64 p.tall) ∧ W.cell? ⟨q, 3, none⟩ = some (.int .i64 p.lo) ∧ W.cell? ⟨q, 4, none⟩ = some (.int .i64 p.hi)) ∧ W.cell? ⟨lg, k0, none⟩ = some (.int .i64 (xa : Int)) ∧ W.cell? ⟨lg, k2, none⟩ = some (.int .i64 (xc : Int))) wr.drew := ⟨(HKz.out.box5 (q := q) (a := .slice (some ⟨ha, 0, none⟩) p.ats.length hc) (b := .slice (some ⟨ga, 0, none⟩) p.gr.length gc) (e := .int .i64 p.tall) (f := .int .i64 p.lo) (g := .int .i64 p.hi) (t := 27) (by simp)), by simpa using q0, by simpa using q2⟩
                        clear HK q0 q2
                        generalize hW0 : wr.drew = W1 at HKz hC
                        refine Lim.regC' (fun W => (W.cell? ⟨q, 0, none⟩ = some (.slice (some ⟨ha, 0, none⟩) p.ats.length hc) ∧ W.cell? ⟨q, 1, none⟩ = some (.slice (some ⟨ga, 0, none⟩) p.gr.length gc) ∧ W.cell? ⟨q, 2, none⟩ = some (.int .i64 p.tall) ∧ W.cell? ⟨q, 3, none⟩ = some (.int .i64 p.lo) ∧ W.cell? ⟨q, 4, none⟩ = some (.int .i64 p.hi)) ∧ W.cell? ⟨lg, k0, none⟩ = some (.int .i64 (xa : Int)) ∧ W.cell? ⟨lg, k2, none⟩ = some (.int .i64 (xc : Int))) [] #[false, false, false, false, false, false, false, false, false, false, false, false, false, false, false, false, false, false, false] (by kernel_rfl) rfl ?_
                        rw [hW0]; clear hW0
                        refine Lim.stepR 0 (fun _ => trivial) rfl (by kernel_rfl) (fun _ _ _ _ h => h) hC rfl ?_; apply Exists.intro; refine ⟨?_, ?_⟩
                        · rintro w ⟨⟨r0, r1, r2, r3, r4⟩, s0, s1⟩; go_simp; try with_reducible rfl
                        simp only [Act.put, List.setIfInBounds_toArray, List.set_cons_succ, List.set_cons_zero]
                        refine Lim.stepR 1 (fun _ => trivial) rfl (by kernel_rfl) (fun _ _ _ _ h => h) hC rfl ?_; apply Exists.intro; refine ⟨?_, ?_⟩
                        · rintro w ⟨⟨r0, r1, r2, r3, r4⟩, s0, s1⟩; go_simp; try with_reducible rfl
                        simp only [Act.put, List.setIfInBounds_toArray, List.set_cons_succ, List.set_cons_zero]
                        refine Lim.stepR 2 (fun _ => trivial) rfl (by kernel_rfl) (fun _ _ _ _ h => h) hC rfl ?_; apply Exists.intro; refine ⟨?_, ?_⟩
                        · rintro w ⟨⟨r0, r1, r2, r3, r4⟩, s0, s1⟩; go_simp; try with_reducible rfl
                        simp only [Act.put, List.setIfInBounds_toArray, List.set_cons_succ, List.set_cons_zero]
                        refine Lim.stepR 3 (fun _ => trivial) rfl (by kernel_rfl) (fun _ _ _ _ h => h) hC rfl ?_; apply Exists.intro; refine ⟨?_, ?_⟩
                        · rintro w ⟨⟨r0, r1, r2, r3, r4⟩, s0, s1⟩; go_simp; try with_reducible rfl
                        simp only [Act.put, List.setIfInBounds_toArray, List.set_cons_succ, List.set_cons_zero]
                        refine Lim.stepR 4 (fun _ => trivial) rfl (by kernel_rfl) (fun _ _ _ _ h => h) hC rfl ?_; apply Exists.intro; refine ⟨?_, ?_⟩
                        · rintro w ⟨⟨r0, r1, r2, r3, r4⟩, s0, s1⟩; go_simp; try with_reducible rfl
                        simp only [Act.put, List.setIfInBounds_toArray, List.set_cons_succ, List.set_cons_zero]
                        refine Lim.stepR 5 (fun _ => trivial) rfl (by kernel_rfl) (fun _ _ _ _ h => h) hC rfl ?_; apply Exists.intro; refine ⟨?_, ?_⟩
                        · rintro w ⟨⟨r0, r1, r2, r3, r4⟩, s0, s1⟩; go_simp; try with_reducible rfl
                        simp only [Act.put, List.setIfInBounds_toArray, List.set_cons_succ, List.set_cons_zero]
                        refine Lim.stepR 6 (fun _ => trivial) rfl (by kernel_rfl) (fun _ _ _ _ h => h) hC rfl ?_; apply Exists.intro; refine ⟨?_, ?_⟩
                        · rintro w ⟨⟨r0, r1, r2, r3, r4⟩, s0, s1⟩; go_simp; try with_reducible rfl
                        simp only [Act.put, List.setIfInBounds_toArray, List.set_cons_succ, List.set_cons_zero]
                        refine Lim.stepR 7 (fun _ => trivial) rfl (by kernel_rfl) (fun _ _ _ _ h => h) hC rfl ?_; apply Exists.intro; refine ⟨?_, ?_⟩
                        · rintro w ⟨⟨r0, r1, r2, r3, r4⟩, s0, s1⟩; go_simp; try with_reducible rfl
                        simp only [Act.put, List.setIfInBounds_toArray, List.set_cons_succ, List.set_cons_zero]
                        refine Lim.stepR 8 (fun _ => trivial) rfl (by kernel_rfl) (fun _ _ _ _ h => h) hC rfl ?_; apply Exists.intro; refine ⟨?_, ?_⟩
                        · rintro w ⟨⟨r0, r1, r2, r3, r4⟩, s0, s1⟩; go_simp; try with_reducible rfl
                        simp only [Act.put, List.setIfInBounds_toArray, List.set_cons_succ, List.set_cons_zero]
                        refine Lim.stepR 9 (fun _ => trivial) rfl (by kernel_rfl) (fun _ _ _ _ h => h) hC rfl ?_; apply Exists.intro; refine ⟨?_, ?_⟩
                        · rintro w ⟨⟨r0, r1, r2, r3, r4⟩, s0, s1⟩; go_simp; try with_reducible rfl
                        simp only [Act.put, List.setIfInBounds_toArray, List.set_cons_succ, List.set_cons_zero]
                        refine Lim.stepR 10 (fun _ => trivial) rfl (by kernel_rfl) (fun _ _ _ _ h => h) hC rfl ?_; apply Exists.intro; refine ⟨?_, ?_⟩
                        · rintro w ⟨⟨r0, r1, r2, r3, r4⟩, s0, s1⟩; go_simp; try with_reducible rfl
                        simp only [Act.put, List.setIfInBounds_toArray, List.set_cons_succ, List.set_cons_zero]
                        refine Lim.stepE 11 (fun _ => trivial) rfl (by kernel_rfl) rfl (fun K hK => ?_)   -- E call
                        go_simp
                        refine ⟨rfl, (callsIn_wide.2 (Sees_any (p := p) (i := (xa : Int)) (j := (xc : Int)) (B := W1.heap.size) (Nat.le_refl _) (HKz.out.rsI (v := .slice (some ⟨ha, 0, none⟩) p.ats.length hc) (n := p.ats.length) (l := p.ats) (.inl (by simp)) rfl) (HKz.out.rsS (v := .slice (some ⟨ga, 0, none⟩) p.gr.length gc) (n := p.gr.length) (l := p.gr) (.inl (by simp)) rfl))).mono ?_⟩
                        rintro e W2 ⟨rfl, hb⟩
                        have HKd := Lib.hid (HKz.out.grow hb)
                        have hC2 : (fun W => (W.cell? ⟨q, 0, none⟩ = some (.slice (some ⟨ha, 0, none⟩) p.ats.length hc) ∧ W.cell? ⟨q, 1, none⟩ = some (.slice (some ⟨ga, 0, none⟩) p.gr.length gc) ∧ W.cell? ⟨q, 2, none⟩ = some (.int .i64 p.tall) ∧ W.cell? ⟨q, 3, none⟩ = some (.int .i64 p.lo) ∧ W.cell? ⟨q, 4, none⟩ = some (.int .i64 p.hi)) ∧ W.cell? ⟨lg, k0, none⟩ = some (.int .i64 (xa : Int)) ∧ W.cell? ⟨lg, k2, none⟩ = some (.int .i64 (xc : Int))) W2 := ⟨⟨hb.on hC.1.1, hb.on hC.1.2.1, hb.on hC.1.2.2.1, hb.on hC.1.2.2.2.1, hb.on hC.1.2.2.2.2⟩, hb.on hC.2.1, hb.on hC.2.2⟩
                        rw [sees_ok HOK.out (by have h1 := H3.out.ab; have h2 := H3.out.bc; have h3 := H3.out.cn; omega) (by have h1 := H3.out.ab; have h2 := H3.out.bc; have h3 := H3.out.cn; omega) (by have h1 := H3.out.ab; have h2 := H3.out.bc; have h3 := H3.out.cn; omega)]
                        refine hK _ _ hC2 ?_
                        clear hK hb HKz hC
                        simp only [Act.put, List.setIfInBounds_toArray, List.set_cons_succ, List.set_cons_zero]
                        refine Lim.stepR 12 (fun _ => trivial) rfl (by kernel_rfl) (fun _ _ _ _ h => h) hC2 rfl ?_; apply Exists.intro; refine ⟨?_, ?_⟩
                        · rintro w ⟨⟨r0, r1, r2, r3, r4⟩, s0, s1⟩; go_simp; try with_reducible rfl
                        simp only [Act.put, List.setIfInBounds_toArray, List.set_cons_succ, List.set_cons_zero]
                        refine Lim.stepR 13 (fun _ => trivial) rfl (by kernel_rfl) (fun _ _ _ _ h => h) hC2 rfl ?_; apply Exists.intro; refine ⟨?_, ?_⟩
                        · rintro w ⟨⟨r0, r1, r2, r3, r4⟩, s0, s1⟩; go_simp; try with_reducible rfl
                        simp only [Act.put, List.setIfInBounds_toArray, List.set_cons_succ, List.set_cons_zero]
                        refine Lim.stepR 14 (fun _ => trivial) rfl (by kernel_rfl) (fun _ _ _ _ h => h) hC2 rfl ?_; apply Exists.intro; refine ⟨?_, ?_⟩
                        · rintro w ⟨⟨r0, r1, r2, r3, r4⟩, s0, s1⟩; go_simp; try with_reducible rfl
                        simp only [Act.put, List.setIfInBounds_toArray, List.set_cons_succ, List.set_cons_zero]
                        refine Lim.stepR 15 (fun _ => trivial) rfl (by kernel_rfl) (fun _ _ _ _ h => h) hC2 rfl ?_; apply Exists.intro; refine ⟨?_, ?_⟩
                        · rintro w ⟨⟨r0, r1, r2, r3, r4⟩, s0, s1⟩; go_simp; try with_reducible rfl
                        simp only [Act.put, List.setIfInBounds_toArray, List.set_cons_succ, List.set_cons_zero]
                        refine Lim.stepR 16 (fun _ => trivial) rfl (by kernel_rfl) (fun _ _ _ _ h => h) hC2 rfl ?_; apply Exists.intro; refine ⟨?_, ?_⟩
                        · rintro w ⟨⟨r0, r1, r2, r3, r4⟩, s0, s1⟩; go_simp; try with_reducible rfl
                        simp only [Act.put, List.setIfInBounds_toArray, List.set_cons_succ, List.set_cons_zero]
                        refine Lim.stepR 17 (fun _ => trivial) rfl (by kernel_rfl) (fun _ _ _ _ h => h) hC2 rfl ?_; apply Exists.intro; refine ⟨?_, ?_⟩
                        · rintro w ⟨⟨r0, r1, r2, r3, r4⟩, s0, s1⟩; go_simp; try with_reducible rfl
                        simp only [Act.put, List.setIfInBounds_toArray, List.set_cons_succ, List.set_cons_zero]
                        refine Lim.stepR 18 (fun _ => trivial) rfl (by kernel_rfl) (fun _ _ _ _ h => h) hC2 rfl ?_; apply Exists.intro; refine ⟨?_, ?_⟩
                        · rintro w ⟨⟨r0, r1, r2, r3, r4⟩, s0, s1⟩; go_simp; try with_reducible rfl
                        simp only [Act.put, List.setIfInBounds_toArray, List.set_cons_succ, List.set_cons_zero]
                        refine Lim.stepD (by kernel_rfl) ?_
                        clear hC2
                        clear q1
                        clear hi0 hi1 hi2 ek0 ek2
                        rw [H7.out.1]
                        go_wp2_with fail
                        refine (awake_any _).mono ?_
                        rintro e wz ⟨rfl, hb⟩
                        have HB := Lib.hid (HKd.out.b.trans (hb.mono HKd.out.b.size))
                        clear hb
                        go_wp2
                        go_ret
                        exact ⟨rfl, HB.out⟩
                · have HKq := Lib.hid (HK2.out.addR hb (r := rwI v6 R.length (R.map Int.ofNat)) hoR)
                  obtain ⟨M, hM⟩ : ∃ M, M = R.map Int.ofNat := ⟨_, rfl⟩
                  have HM2 : Hid (M = R.map Int.ofNat ∧ M.length = R.length ∧ 1 ≤ M.length ∧ M.length ≤ 10) := Lib.hid (by
                    have h1 := hR.ch.pos
                    have h2 := hR.ch.len
                    have h3 := HLN.out
                    have h4 : M.length = R.length := by rw [hM, List.length_map]
                    exact ⟨hM, h4, by omega, by omega⟩)
                  have HR := Lib.hid hR
                  have HK3 : Hid (Mem w S d1 c (rwI v6 M.length M :: (rwI (.slice (some ⟨lg, 0, none⟩) A.length lgc) A.length A :: [rwI (.slice (some ⟨ha, 0, none⟩) p.ats.length hc) p.ats.length p.ats, rwS (.slice (some ⟨ga, 0, none⟩) p.gr.length gc) p.gr.length p.gr, rwI (.slice (some ⟨ta, 0, none⟩) T.length tc) T.length T])) [] [(q, Obj.cells #[.slice (some ⟨ha, 0, none⟩) p.ats.length hc, .slice (some ⟨ga, 0, none⟩) p.gr.length gc, .int .i64 p.tall, .int .i64 p.lo, .int .i64 p.hi] 27 (0, 0))] w6) := Lib.hid (by rw [HM2.out.2.1, HM2.out.1]; exact HKq.out)
                  have HIM : Hid (inAll p.n M = true ∧ holdsP p M = true) := Lib.hid (by rw [hM]; exact ch_holds HOK.out hR.ch)
                  clear hoR hR hb HK2 HKq hM
                  obtain ⟨mg, mgc, rfl⟩ : ∃ g cap, v6 = .slice (some ⟨g, 0, none⟩) M.length cap := form_pos (r := rwI v6 M.length M) (HK3.out.r _ List.mem_cons_self) (show 0 < M.length by have := HM2.out; omega)
                  obtain ⟨b0, b1, b2, b3, b4⟩ := HK3.out.box5 (q := q) (a := .slice (some ⟨ha, 0, none⟩) p.ats.length hc) (b := .slice (some ⟨ga, 0, none⟩) p.gr.length gc) (e := .int .i64 p.tall) (f := .int .i64 p.lo) (g := .int .i64 p.hi) (t := 27) (by simp)
                  go_wp2_with fail
                  refine (Holds_any (p := p) (xs := M) (B := w6.heap.size) (Nat.le_refl _) (HK3.out.rsI (v := .slice (some ⟨ha, 0, none⟩) p.ats.length hc) (n := p.ats.length) (l := p.ats) (.inl (by simp)) rfl) (HK3.out.rsS (v := .slice (some ⟨ga, 0, none⟩) p.gr.length gc) (n := p.gr.length) (l := p.gr) (.inl (by simp)) rfl) (HK3.out.rsI (v := .slice (some ⟨mg, 0, none⟩) M.length mgc) (n := M.length) (l := M) (.inl List.mem_cons_self) rfl) (by have := HM2.out; omega)).mono ?_
                  rintro e w7 ⟨rfl, hb⟩
                  have HK4 := Lib.hid (HK3.out.grow hb)
                  rw [holds_ok HOK.out HIM.out.1, HIM.out.2]
                  clear hb HK3 b0 b1 b2 b3 b4 HIM
                  have hi0 : (k0 : Int) < (A.length : Int) := by have h1 := H3.out.lt; have h2 := H3.out.i2; have h3 := H3.out.i0; omega
                  have hi1 : (k : Int) < (A.length : Int) := by have h1 := H3.out.lt; have h2 := H3.out.i2; omega
                  have hi2 : (k2 : Int) < (A.length : Int) := by have h1 := H3.out.lt; omega
                  have ek0 : IntKind.i64.wrap ((k : Int) - 1) = (k0 : Int) := by rw [IntWalk.i64_in _ (by omega)]; have := H3.out.i0; omega
                  have ek2 : IntKind.i64.wrap ((k : Int) + 1) = (k2 : Int) := by rw [IntWalk.i64_in _ (by omega)]; have := H3.out.i2; omega
                  have hx45 : xa < 45 ∧ xc < 45 := by have h1 := H3.out.ab; have h2 := H3.out.bc; have h3 := H3.out.cn; have h4 := HLN.out; omega
                  have q0 := HK4.out.cellI (g := lg) (n := A.length) (cap := lgc) (l := A) (.inl (by simp)) (j := k0) (by have h1 := H3.out.lt; have h2 := H3.out.i2; have h3 := H3.out.i0; omega)
                  rw [H3.out.ga] at q0
                  have q1 := HK4.out.cellI (g := lg) (n := A.length) (cap := lgc) (l := A) (.inl (by simp)) (j := k) (by have h1 := H3.out.lt; have h2 := H3.out.i2; have h3 := H3.out.i0; omega)
                  rw [H3.out.gb] at q1
                  have q2 := HK4.out.cellI (g := lg) (n := A.length) (cap := lgc) (l := A) (.inl (by simp)) (j := k2) (by have h1 := H3.out.lt; have h2 := H3.out.i2; have h3 := H3.out.i0; omega)
                  rw [H3.out.gc] at q2
                  clear q0 q2
                  go_wp2_with fail
                  clear q1
                  refine (contains_any (B := w7.heap.size) (xb : Int) (xs := M) (by have := HM2.out; omega) (HK4.out.rsI (v := .slice (some ⟨mg, 0, none⟩) M.length mgc) (n := M.length) (l := M) (.inl List.mem_cons_self) rfl)).mono ?_
                  rintro e w8 ⟨rfl, hw⟩
                  rw [← hw]
                  clear hw
                  rw [show decide ((xb : Int) ∈ M) = false from by rw [decide_eq_false_iff_not, HM2.out.1, mem_nat, ← H3.out.eb]; exact HR.out.lost]
                  have HLS : Hid (2 ≤ A.length) := Lib.hid (by omega)
                  go_wp2_with fail
                  clear hi0 hi1 hi2 ek0 ek2
                  go_loopw [236] (fun iv W => ∃ i : Nat, i ≤ A.length ∧ iv = .int .i64 i ∧ Hid (Mem w S d1 c (rwI (.slice (some ⟨mg, 0, none⟩) M.length mgc) M.length M :: (rwI (.slice (some ⟨lg, 0, none⟩) A.length lgc) A.length A :: [rwI (.slice (some ⟨ha, 0, none⟩) p.ats.length hc) p.ats.length p.ats, rwS (.slice (some ⟨ga, 0, none⟩) p.gr.length gc) p.gr.length p.gr, rwI (.slice (some ⟨ta, 0, none⟩) T.length tc) T.length T])) [] [(q, Obj.cells #[.slice (some ⟨ha, 0, none⟩) p.ats.length hc, .slice (some ⟨ga, 0, none⟩) p.gr.length gc, .int .i64 p.tall, .int .i64 p.lo, .int .i64 p.hi] 27 (0, 0))] W)) (fun iv _ => A.length - (intOf iv).toNat)
                  case atStart => exact ⟨0, Nat.zero_le _, rfl, HK4⟩
                  case round =>
                    as_aux_lemma =>
                      clear HK4
                      obtain ⟨i, hi, rfl, HK⟩ := hrel
                      by_cases hil : i < A.length
                      · have hii : (i : Int) < (A.length : Int) := by omega
                        have hi40 : i < 40 := by omega
                        obtain ⟨y, hy⟩ : ∃ y, y = L.getD i 0 := ⟨_, rfl⟩
                        have HY := Lib.hid hy
                        have qi := HK.out.cellI (g := lg) (n := A.length) (cap := lgc) (l := A) (.inl (by simp)) (j := i) hil
                        rw [H3.out.hA, getD_map, ← hy] at qi
                        clear hy
                        by_cases hik : i = k
                        · have de : ((i : Int) == (k : Int)) = true := by rw [beq_iff_eq]; omega
                          have dn : ((i : Int) != (k : Int)) = false := by rw [bne_eq_false_iff_eq]; omega
                          clear hik
                          go_wp2
                          go_roundw
                          case rel => exact ⟨i + 1, by omega, by go_num, HK⟩
                          case measure => simp [intOf]; omega
                        · have de : ((i : Int) == (k : Int)) = false := by rw [beq_eq_false_iff_ne]; omega
                          have dn : ((i : Int) != (k : Int)) = true := by rw [bne_iff_ne]; omega
                          have HIK := Lib.hid hik
                          clear hik
                          go_wp2_with fail
                          refine (contains_any (B := wr.heap.size) (y : Int) (xs := M) (by have := HM2.out; omega) (HK.out.rsI (v := .slice (some ⟨mg, 0, none⟩) M.length mgc) (n := M.length) (l := M) (.inl List.mem_cons_self) rfl)).mono ?_
                          rintro e w8 ⟨rfl, hw⟩
                          rw [← hw]
                          clear hw qi
                          rw [show decide ((y : Int) ∈ M) = true from by rw [decide_eq_true_eq, HM2.out.1, mem_nat, HY.out]; exact HR.out.others i (by have := H3.out.ll; omega) HIK.out]
                          go_wp2
                          go_roundw
                          case rel => exact ⟨i + 1, by omega, by go_num, HK⟩
                          case measure => simp [intOf]; omega
                      · have hii : ¬ ((i : Int) < (A.length : Int)) := by omega
                        have HML : Hid (M.length ≤ 10) := Lib.hid HM2.out.2.2.2
                        clear hil hi
                        go_wp2_with fail
                        clear hii
                        go_loopw [253] (fun iv W => ∃ i : Nat, i ≤ M.length ∧ iv = .int .i64 i ∧ Hid (Mem w S d1 c (rwI (.slice (some ⟨mg, 0, none⟩) M.length mgc) M.length M :: (rwI (.slice (some ⟨lg, 0, none⟩) A.length lgc) A.length A :: [rwI (.slice (some ⟨ha, 0, none⟩) p.ats.length hc) p.ats.length p.ats, rwS (.slice (some ⟨ga, 0, none⟩) p.gr.length gc) p.gr.length p.gr, rwI (.slice (some ⟨ta, 0, none⟩) T.length tc) T.length T])) [] [(q, Obj.cells #[.slice (some ⟨ha, 0, none⟩) p.ats.length hc, .slice (some ⟨ga, 0, none⟩) p.gr.length gc, .int .i64 p.tall, .int .i64 p.lo, .int .i64 p.hi] 27 (0, 0))] W)) (fun iv _ => M.length - (intOf iv).toNat)
                        case atStart => exact ⟨0, Nat.zero_le _, rfl, HK⟩
                        case round =>
                          as_aux_lemma =>
                            clear HK
                            obtain ⟨i, hi, rfl, HK⟩ := hrel
                            by_cases hil : i < M.length
                            · have hii : (i : Int) < (M.length : Int) := by omega
                              have hi40 : i < 40 := by have := HML.out; omega
                              obtain ⟨y, hy⟩ : ∃ y, y = R.getD i 0 := ⟨_, rfl⟩
                              have HY : Hid (y ∈ R) := Lib.hid (by rw [hy]; exact memD (by have := HM2.out; omega))
                              have qi := HK.out.cellI (g := mg) (n := M.length) (cap := mgc) (l := M) (.inl (by simp)) (j := i) hil
                              rw [HM2.out.1, getD_map, ← hy] at qi
                              clear hy
                              have hy45 : y < 45 := by have h1 := (HR.out.ch.mem y HY.out).2.1; have := HLN.out; omega
                              rcases Classical.em ((y : Int) ∈ A) with hym | hym
                              · have HYM : Hid (decide ((y : Int) ∈ A) = true) := Lib.hid (decide_eq_true hym)
                                clear hym
                                go_wp2_with fail
                                refine (contains_any (B := wr.heap.size) (y : Int) (xs := A) (by omega) (HK.out.rsI (v := .slice (some ⟨lg, 0, none⟩) A.length lgc) (n := A.length) (l := A) (.inl (by simp)) rfl)).mono ?_
                                rintro e w8 ⟨rfl, hw⟩
                                rw [← hw, HYM.out]
                                clear hw qi
                                go_wp2
                                go_roundw
                                case rel => exact ⟨i + 1, by omega, by go_num, HK⟩
                                case measure => simp [intOf]; omega
                              · have HYM : Hid (decide ((y : Int) ∈ A) = false) := Lib.hid (decide_eq_false hym)
                                have hyn := HR.out.near y HY.out (fun h => hym (by rw [H3.out.hA, mem_nat]; exact h))
                                rw [H3.out.ea, H3.out.ec] at hyn
                                have d1' : decide (y < xa) = false := by rw [decide_eq_false_iff_not]; omega
                                have d2' : decide (xc < y) = false := by rw [decide_eq_false_iff_not]; omega
                                have d3' : decide ((y : Int) < (xa : Int)) = false := by rw [decide_eq_false_iff_not]; omega
                                have d4' : decide ((xc : Int) < (y : Int)) = false := by rw [decide_eq_false_iff_not]; omega
                                clear hym hyn
                                have hi0 : (k0 : Int) < (A.length : Int) := by have h1 := H3.out.lt; have h2 := H3.out.i2; have h3 := H3.out.i0; omega
                                have hi1 : (k : Int) < (A.length : Int) := by have h1 := H3.out.lt; have h2 := H3.out.i2; omega
                                have hi2 : (k2 : Int) < (A.length : Int) := by have h1 := H3.out.lt; omega
                                have ek0 : IntKind.i64.wrap ((k : Int) - 1) = (k0 : Int) := by rw [IntWalk.i64_in _ (by omega)]; have := H3.out.i0; omega
                                have ek2 : IntKind.i64.wrap ((k : Int) + 1) = (k2 : Int) := by rw [IntWalk.i64_in _ (by omega)]; have := H3.out.i2; omega
                                have hx45 : xa < 45 ∧ xc < 45 := by have h1 := H3.out.ab; have h2 := H3.out.bc; have h3 := H3.out.cn; have h4 := HLN.out; omega
                                have q0 := HK.out.cellI (g := lg) (n := A.length) (cap := lgc) (l := A) (.inl (by simp)) (j := k0) (by have h1 := H3.out.lt; have h2 := H3.out.i2; have h3 := H3.out.i0; omega)
                                rw [H3.out.ga] at q0
                                have q1 := HK.out.cellI (g := lg) (n := A.length) (cap := lgc) (l := A) (.inl (by simp)) (j := k) (by have h1 := H3.out.lt; have h2 := H3.out.i2; have h3 := H3.out.i0; omega)
                                rw [H3.out.gb] at q1
                                have q2 := HK.out.cellI (g := lg) (n := A.length) (cap := lgc) (l := A) (.inl (by simp)) (j := k2) (by have h1 := H3.out.lt; have h2 := H3.out.i2; have h3 := H3.out.i0; omega)
                                rw [H3.out.gc] at q2
                                go_wp2_with fail
                                refine (contains_any (B := wr.heap.size) (y : Int) (xs := A) (by omega) (HK.out.rsI (v := .slice (some ⟨lg, 0, none⟩) A.length lgc) (n := A.length) (l := A) (.inl (by simp)) rfl)).mono ?_
                                rintro e w8 ⟨rfl, hw⟩
                                rw [← hw, HYM.out]
                                clear hw qi
                                go_wp2
                                go_roundw
                                case rel => exact ⟨i + 1, by omega, by go_num, HK⟩
                                case measure => simp [intOf]; omega
                            · have hii : ¬ ((i : Int) < (M.length : Int)) := by omega
                              clear hil hi
                              go_wp2_with fail
                              clear hii
                              go_loopw [280] (fun tv W => ∃ t c2 : Nat, t ≤ 4 ∧ tv = .int .i64 t ∧ Hid (c2 ≤ 10 + 10 * t) ∧ Hid (Mem w S d1 c2 (rwI (.slice (some ⟨mg, 0, none⟩) M.length mgc) M.length M :: (rwI (.slice (some ⟨lg, 0, none⟩) A.length lgc) A.length A :: [rwI (.slice (some ⟨ha, 0, none⟩) p.ats.length hc) p.ats.length p.ats, rwS (.slice (some ⟨ga, 0, none⟩) p.gr.length gc) p.gr.length p.gr, rwI (.slice (some ⟨ta, 0, none⟩) T.length tc) T.length T])) [] [(q, Obj.cells #[.slice (some ⟨ha, 0, none⟩) p.ats.length hc, .slice (some ⟨ga, 0, none⟩) p.gr.length gc, .int .i64 p.tall, .int .i64 p.lo, .int .i64 p.hi] 27 (0, 0))] W)) (fun tv _ => 4 - (intOf tv).toNat)
                              case atStart => exact ⟨0, c, Nat.zero_le _, rfl, Lib.hid (by have := HA2.out; omega), HK⟩
                              case round =>
                                as_aux_lemma =>
                                  clear HK
                                  obtain ⟨t, c2, ht, rfl, HC2, HK⟩ := hrel
                                  by_cases ht4 : t < 4
                                  · have hti : (t : Int) < 4 := by omega
                                    have hcp : A.length ≤ lgc := own_cap (HK.out.r (rwI (.slice (some ⟨lg, 0, none⟩) A.length lgc) A.length A) (by simp))
                                    have hkl : k ≤ lgc := by have h1 := H3.out.lt; have h2 := H3.out.i2; omega
                                    have hkl2 : (k : Int) ≤ (lgc : Int) := by omega
                                    go_wp2_with fail
                                    obtain ⟨G, hG⟩ : ∃ G, G = A.take k := ⟨_, rfl⟩
                                    have HG := Lib.hid hG
                                    refine (kclone_ints (B := wr.heap.size) (l := G) (by rw [hG, List.length_take]; omega) (by rw [hG]; exact rs_take rfl (by have h1 := H3.out.lt; have h2 := H3.out.i2; omega) lgc (HK.out.rsI (v := .slice (some ⟨lg, 0, none⟩) A.length lgc) (n := A.length) (l := A) (.inl (by simp)) rfl))).mono ?_
                                    rintro e w8 ⟨v8, rfl, ho, hb⟩
                                    have HKb := Lib.hid (HK.out.addQ hb (r := rwI v8 G.length G) ho)
                                    clear ho hb HK hcp hkl hkl2 hG
                                    have hi0 : (k0 : Int) < (A.length : Int) := by have h1 := H3.out.lt; have h2 := H3.out.i2; have h3 := H3.out.i0; omega
                                    have hi1 : (k : Int) < (A.length : Int) := by have h1 := H3.out.lt; have h2 := H3.out.i2; omega
                                    have hi2 : (k2 : Int) < (A.length : Int) := by have h1 := H3.out.lt; omega
                                    have ek0 : IntKind.i64.wrap ((k : Int) - 1) = (k0 : Int) := by rw [IntWalk.i64_in _ (by omega)]; have := H3.out.i0; omega
                                    have ek2 : IntKind.i64.wrap ((k : Int) + 1) = (k2 : Int) := by rw [IntWalk.i64_in _ (by omega)]; have := H3.out.i2; omega
                                    have hx45 : xa < 45 ∧ xc < 45 := by have h1 := H3.out.ab; have h2 := H3.out.bc; have h3 := H3.out.cn; have h4 := HLN.out; omega
                                    have q0 := HKb.out.cellI (g := lg) (n := A.length) (cap := lgc) (l := A) (.inl (by simp)) (j := k0) (by have h1 := H3.out.lt; have h2 := H3.out.i2; have h3 := H3.out.i0; omega)
                                    rw [H3.out.ga] at q0
                                    have q1 := HKb.out.cellI (g := lg) (n := A.length) (cap := lgc) (l := A) (.inl (by simp)) (j := k) (by have h1 := H3.out.lt; have h2 := H3.out.i2; have h3 := H3.out.i0; omega)
                                    rw [H3.out.gb] at q1
                                    have q2 := HKb.out.cellI (g := lg) (n := A.length) (cap := lgc) (l := A) (.inl (by simp)) (j := k2) (by have h1 := H3.out.lt; have h2 := H3.out.i2; have h3 := H3.out.i0; omega)
                                    rw [H3.out.gc] at q2
                                    clear q1 q2
                                    go_wp2_with fail
                                    clear hi0 hi1 hi2 ek0 ek2 q0
                                    go_loopw [37, 38] (fun mv tv W => ∃ (x c3 : Nat) (T9 : List Nat) (G : List Int), tv = .int .i64 x ∧ Hid (xa < x ∧ x ≤ xc ∧ c3 + xa + 1 ≤ c2 + x) ∧ Hid (G = A.take k ++ T9.map Int.ofNat ∧ MineT p L k x T9) ∧ Hid (Mem w S d1 c3 (rwI (.slice (some ⟨mg, 0, none⟩) M.length mgc) M.length M :: (rwI (.slice (some ⟨lg, 0, none⟩) A.length lgc) A.length A :: [rwI (.slice (some ⟨ha, 0, none⟩) p.ats.length hc) p.ats.length p.ats, rwS (.slice (some ⟨ga, 0, none⟩) p.gr.length gc) p.gr.length p.gr, rwI (.slice (some ⟨ta, 0, none⟩) T.length tc) T.length T])) [rwI mv G.length G] [(q, Obj.cells #[.slice (some ⟨ha, 0, none⟩) p.ats.length hc, .slice (some ⟨ga, 0, none⟩) p.gr.length gc, .int .i64 p.tall, .int .i64 p.lo, .int .i64 p.hi] 27 (0, 0))] W)) (fun _ tv _ => xc - (intOf tv).toNat)
                                    case atStart => exact ⟨xa + 1, c2, [], G, by go_num, Lib.hid (by have h1 := H3.out.ab; have h2 := H3.out.bc; omega), Lib.hid ⟨by rw [HG.out]; simp, MineT.nil _ _ _ _⟩, HKb⟩
                                    case round =>
                                      as_aux_lemma =>
                                        clear HKb HG
                                        obtain ⟨x, c3, T1, G, rfl, HX, HT, HK⟩ := hrel
                                        have hi0 : (k0 : Int) < (A.length : Int) := by have h1 := H3.out.lt; have h2 := H3.out.i2; have h3 := H3.out.i0; omega
                                        have hi1 : (k : Int) < (A.length : Int) := by have h1 := H3.out.lt; have h2 := H3.out.i2; omega
                                        have hi2 : (k2 : Int) < (A.length : Int) := by have h1 := H3.out.lt; omega
                                        have ek0 : IntKind.i64.wrap ((k : Int) - 1) = (k0 : Int) := by rw [IntWalk.i64_in _ (by omega)]; have := H3.out.i0; omega
                                        have ek2 : IntKind.i64.wrap ((k : Int) + 1) = (k2 : Int) := by rw [IntWalk.i64_in _ (by omega)]; have := H3.out.i2; omega
                                        have hx45 : xa < 45 ∧ xc < 45 := by have h1 := H3.out.ab; have h2 := H3.out.bc; have h3 := H3.out.cn; have h4 := HLN.out; omega
                                        have q0 := HK.out.cellI (g := lg) (n := A.length) (cap := lgc) (l := A) (.inl (by simp)) (j := k0) (by have h1 := H3.out.lt; have h2 := H3.out.i2; have h3 := H3.out.i0; omega)
                                        rw [H3.out.ga] at q0
                                        have q1 := HK.out.cellI (g := lg) (n := A.length) (cap := lgc) (l := A) (.inl (by simp)) (j := k) (by have h1 := H3.out.lt; have h2 := H3.out.i2; have h3 := H3.out.i0; omega)
                                        rw [H3.out.gb] at q1
                                        have q2 := HK.out.cellI (g := lg) (n := A.length) (cap := lgc) (l := A) (.inl (by simp)) (j := k2) (by have h1 := H3.out.lt; have h2 := H3.out.i2; have h3 := H3.out.i0; omega)
                                        rw [H3.out.gc] at q2
                                        by_cases hxc : x < xc
                                        · have hxi : (x : Int) < (xc : Int) := by omega
                                          have HGL : Hid (G.length ≤ 40) := Lib.hid (by rw [HT.out.1]; have h1 := HT.out.2.len; have h2 := HX.out; have h3 := H3.out.cn; have h4 := HLN.out; simp; omega)
                                          go_upto_region 60 with (fail)
                                          go_cut [311] from 301 to 310 (fun s311 wx => ∃ (bb : Bool) (c4 : Nat), s311 = .bool bb ∧ Hid (bb = true → x ≠ xb) ∧ Hid (c4 ≤ c3 + 1) ∧ Hid (Mem w S d1 c4 (rwI (.slice (some ⟨mg, 0, none⟩) M.length mgc) M.length M :: (rwI (.slice (some ⟨lg, 0, none⟩) A.length lgc) A.length A :: [rwI (.slice (some ⟨ha, 0, none⟩) p.ats.length hc) p.ats.length p.ats, rwS (.slice (some ⟨ga, 0, none⟩) p.gr.length gc) p.gr.length p.gr, rwI (.slice (some ⟨ta, 0, none⟩) T.length tc) T.length T])) [rwI u37 G.length G] [(q, Obj.cells #[.slice (some ⟨ha, 0, none⟩) p.ats.length hc, .slice (some ⟨ga, 0, none⟩) p.gr.length gc, .int .i64 p.tall, .int .i64 p.lo, .int .i64 p.hi] 27 (0, 0))] wx))
                                          case first =>
                                            as_aux_lemma =>
                                              by_cases hxb : x = xb
                                              · have de : ((x : Int) == (xb : Int)) = true := by rw [beq_iff_eq]; omega
                                                have dn : ((x : Int) != (xb : Int)) = false := by rw [bne_eq_false_iff_eq]; omega
                                                clear hxb
                                                go_wp2
                                                go_meet
                                                case rel => exact ⟨false, c3, rfl, Lib.hid (fun h => by cases h), Lib.hid (Nat.le_succ _), HK⟩
                                              · have de : ((x : Int) == (xb : Int)) = false := by rw [beq_eq_false_iff_ne]; omega
                                                have dn : ((x : Int) != (xb : Int)) = true := by rw [bne_iff_ne]; omega
                                                have HXB := Lib.hid hxb
                                                clear hxb
                                                go_wp2_with fail
                                                refine (deck_draw (n := 2) HK.out.dk (by have h1 := HC2.out; have h2 := HX.out; omega)).mono ?_
                                                rintro e W2 ⟨r, rfl, -, hdl⟩
                                                have HKa := Lib.hid (HK.out.dealt hdl)
                                                obtain ⟨bb, hbb⟩ : ∃ bb, (r == 0) = bb := ⟨_, rfl⟩
                                                clear hdl HK
                                                go_wp2
                                                go_meet
                                                case rel => exact ⟨bb, c3 + 1, rfl, Lib.hid (fun _ => HXB.out), Lib.hid (Nat.le_refl _), HKa⟩
                                          case rest =>
                                            as_aux_lemma =>
                                              obtain ⟨bb, c4, rfl, HBB, HC4, HKe⟩ := hcut
                                              clear HK hi0 hi1 hi2 ek0 ek2 q0 q1 q2
                                              have HAL := HGL
                                              cases bb with
                                              | true =>
                                                have HOW : Hid ((wc.alloc (.cells #[.int .i64 (x : Int)] 3)).ownsRow S 3 1 u37 G.length (ints G)) := Lib.hid ((HKe.out.grow ((Below.refl _ wc).alloc (Nat.le_refl _) (.cells #[.int .i64 x] 3))).q (rwI u37 G.length G) List.mem_cons_self)
                                                go_wp2_with (at_builtin; refine wpList_append_own_at _ rfl _ _ 22 rfl S 3 i0 (.int .i64 0) 1 8 Try.underlying22 HI.out.1 HI.out.2.1 HI.out.2.2.1 HI.out.2.2.2 rfl (by decide) _ _ _ rfl HOW.out ⟨wc.heap.size, 0, none⟩ 1 1 [.int .i64 x] rfl rfl (cell_one_new _ _ _) (by simp [Value.oneCell']) (by have := HAL.out; unfold maxLen; omega) (by have := HAL.out; omega) ((HKe.out.grow ((Below.refl _ wc).alloc (Nat.le_refl _) (.cells #[.int .i64 x] 3))).o.2.2) ?_; intro v' w3' hown3 hgrow _ hat; have HAT := Lib.hid (And.intro hown3 (And.intro hgrow hat)); clear hown3 hgrow hat)
                                                have H4 := Lib.hid (Mem.push (Q1 := []) (HKe.out.grow ((Below.refl _ wc).alloc (Nat.le_refl _) (.cells #[.int .i64 x] 3))) HAT.out.1 HAT.out.2.1 HAT.out.2.2)
                                                clear HAT HOW
                                                go_wp2
                                                go_roundw
                                                case rel => exact ⟨x + 1, c4, T1 ++ [x], _, by go_num, Lib.hid (by have h1 := HX.out; have h2 := HC4.out; omega), Lib.hid ⟨by rw [HT.out.1, List.map_append, List.append_assoc]; rfl, HT.out.2.snoc (by have := H3.out.cn; omega) (by rw [H3.out.eb]; exact HBB.out rfl)⟩, H4⟩
                                                case measure => simp [intOf]; omega
                                              | false =>
                                                go_wp2
                                                go_roundw
                                                case rel => exact ⟨x + 1, c4, T1, G, by go_num, Lib.hid (by have h1 := HX.out; have h2 := HC4.out; omega), Lib.hid ⟨HT.out.1, HT.out.2.skip⟩, HKe⟩
                                                case measure => simp [intOf]; omega
                                        · have hxi : ¬ ((x : Int) < (xc : Int)) := by omega
                                          have hcp : A.length ≤ lgc := own_cap (HK.out.r (rwI (.slice (some ⟨lg, 0, none⟩) A.length lgc) A.length A) (by simp))
                                          have hcp2 : (A.length : Int) ≤ (lgc : Int) := by omega
                                          have HGL : Hid (G.length ≤ 40) := Lib.hid (by rw [HT.out.1]; have h1 := HT.out.2.len; have h2 := HX.out; have h3 := H3.out.cn; have h4 := HLN.out; simp; omega)
                                          go_upto_region 62 with (fail)
                                          clear hxc hxi
                                          have HOW : Hid (wr.ownsRow S 3 1 u37 G.length (ints G)) := Lib.hid (HK.out.q (rwI u37 G.length G) List.mem_cons_self)
                                          have HNW : Hid (∀ j u, (ints (A.drop k2))[j]? = some u → wr.cell? ((⟨lg, k2, none⟩ : Addr).add j) = some u) := Lib.hid fun j u hj => by
                                            rw [add_mid']
                                            refine row_cell (HK.out.r (rwI (.slice (some ⟨lg, 0, none⟩) A.length lgc) A.length A) (by simp)) rfl ?_
                                            show (ints A)[k2 + j]? = some u
                                            rw [← hj]
                                            unfold ints
                                            rw [List.getElem?_map, List.getElem?_map, List.getElem?_drop]
                                          go_upto_region 63 with (at_builtin; refine wpList_append_own_at _ rfl _ _ 22 rfl S 3 i0 (.int .i64 0) 1 8 Try.underlying22 HI.out.1 HI.out.2.1 HI.out.2.2.1 HI.out.2.2.2 rfl (by decide) _ _ _ rfl HOW.out ⟨lg, k2, none⟩ (A.length - k2) (lgc - k2) (ints (A.drop k2)) rfl (by simp [ints]) HNW.out (ints_one _) (by have := HGL.out; unfold maxLen; omega) (by have := HGL.out; omega) HK.out.o.2.2 ?_; intro v' w3' hown3 hgrow _ hat; have HAT := Lib.hid (And.intro hown3 (And.intro hgrow hat)); clear hown3 hgrow hat)
                                          have H4 := Lib.hid (Mem.pushL (Q1 := []) (B := A.drop k2) HK.out (by simp) HAT.out.1 HAT.out.2.1 HAT.out.2.2)
                                          clear HAT HOW HNW
                                          clear hi0 hi1 hi2 ek0 ek2 q0 q1 q2 hcp hcp2 HK
                                          obtain ⟨G2, hG2⟩ : ∃ G2, G2 = G ++ A.drop k2 := ⟨_, rfl⟩
                                          rw [← hG2] at H4
                                          have hG3 : G2 = A.take k ++ T1.map Int.ofNat ++ A.drop (k + 1) := by rw [hG2, HT.out.1, H3.out.i2]
                                          have HG2 : Hid (inAll p.n G2 = true ∧ (holdsP p G2 = true → M.length ≤ G2.length) ∧ G2.length ≤ 90) := Lib.hid (by
                                            refine ⟨by rw [hG3]; exact HT.out.2.inAll HOK.out H3.out.hA H3.out.hL, fun h => ?_, by rw [hG2]; have := HGL.out; simp; omega⟩
                                            rw [HM2.out.2.1, hG3]
                                            rw [hG3] at h
                                            exact HT.out.2.few HOK.out H3.out.hA H3.out.hL HR.out h)
                                          clear hG2 hG3
                                          obtain ⟨va, vc, rfl⟩ : ∃ a c, v' = .slice a G2.length c := row_form (r := rwI v' G2.length G2) (H4.out.q _ List.mem_cons_self)
                                          obtain ⟨b0, b1, b2, b3, b4⟩ := H4.out.box5 (q := q) (a := .slice (some ⟨ha, 0, none⟩) p.ats.length hc) (b := .slice (some ⟨ga, 0, none⟩) p.gr.length gc) (e := .int .i64 p.tall) (f := .int .i64 p.lo) (g := .int .i64 p.hi) (t := 27) (by simp)
                                          go_wp2_with fail
                                          refine (Holds_any (p := p) (xs := G2) (B := w3'.heap.size) (Nat.le_refl _) (H4.out.rsI (v := .slice (some ⟨ha, 0, none⟩) p.ats.length hc) (n := p.ats.length) (l := p.ats) (.inl (by simp)) rfl) (H4.out.rsS (v := .slice (some ⟨ga, 0, none⟩) p.gr.length gc) (n := p.gr.length) (l := p.gr) (.inl (by simp)) rfl) (H4.out.rsI (v := .slice va G2.length vc) (n := G2.length) (l := G2) (.inr (by simp)) rfl) (by have := HG2.out.2.2; omega)).mono ?_
                                          rintro e w10 ⟨rfl, hb⟩
                                          have H5 := Lib.hid (H4.out.grow hb)
                                          rw [holds_ok HOK.out HG2.out.1]
                                          obtain ⟨hp, hhp⟩ : ∃ b, holdsP p G2 = b := ⟨_, rfl⟩
                                          rw [hhp]
                                          have HHP := Lib.hid hhp
                                          clear hb hhp H4 b0 b1 b2 b3 b4
                                          go_upto_region 64 with (fail)
                                          go_cut [339] from 328 to 338 (fun s339 wx => s339 = .bool false ∧ Hid (Mem w S d1 c3 (rwI (.slice (some ⟨mg, 0, none⟩) M.length mgc) M.length M :: (rwI (.slice (some ⟨lg, 0, none⟩) A.length lgc) A.length A :: [rwI (.slice (some ⟨ha, 0, none⟩) p.ats.length hc) p.ats.length p.ats, rwS (.slice (some ⟨ga, 0, none⟩) p.gr.length gc) p.gr.length p.gr, rwI (.slice (some ⟨ta, 0, none⟩) T.length tc) T.length T])) [] [(q, Obj.cells #[.slice (some ⟨ha, 0, none⟩) p.ats.length hc, .slice (some ⟨ga, 0, none⟩) p.gr.length gc, .int .i64 p.tall, .int .i64 p.lo, .int .i64 p.hi] 27 (0, 0))] wx))
                                          case first =>
                                            as_aux_lemma =>
                                              have H6 : Hid (Mem w S d1 c3 (rwI (.slice (some ⟨mg, 0, none⟩) M.length mgc) M.length M :: (rwI (.slice (some ⟨lg, 0, none⟩) A.length lgc) A.length A :: [rwI (.slice (some ⟨ha, 0, none⟩) p.ats.length hc) p.ats.length p.ats, rwS (.slice (some ⟨ga, 0, none⟩) p.gr.length gc) p.gr.length p.gr, rwI (.slice (some ⟨ta, 0, none⟩) T.length tc) T.length T])) [] [(q, Obj.cells #[.slice (some ⟨ha, 0, none⟩) p.ats.length hc, .slice (some ⟨ga, 0, none⟩) p.gr.length gc, .int .i64 p.tall, .int .i64 p.lo, .int .i64 p.hi] 27 (0, 0))] w10) := Lib.hid (H5.out.less (fun _ h => h) (List.nil_sublist _) (List.Sublist.refl _))
                                              cases hp with
                                              | false =>
                                                go_wp2
                                                go_meet
                                                case rel => exact ⟨rfl, H6⟩
                                              | true =>
                                                have dd : decide (G2.length < M.length) = false := by rw [decide_eq_false_iff_not]; have := HG2.out.2.1 HHP.out; omega
                                                have dd2 : decide ((G2.length : Int) < (M.length : Int)) = false := by rw [decide_eq_false_iff_not]; have := HG2.out.2.1 HHP.out; omega
                                                go_wp2
                                                go_meet
                                                case rel => exact ⟨rfl, H6⟩
                                          case rest =>
                                            as_aux_lemma =>
                                              obtain ⟨rfl, HKg⟩ := hcut
                                              clear H5 HHP
                                              go_wp2
                                              go_roundw
                                              case rel => exact ⟨t + 1, c3, by omega, by go_num, Lib.hid (by have h1 := HX.out; have h2 := HC2.out; have h3 := H3.out.cn; have h4 := HLN.out; omega), HKg⟩
                                              case measure => simp [intOf]; omega
                                  · have hti : ¬ ((t : Int) < 4) := by omega
                                    go_wp2_with fail
                                    refine (awake_any _).mono ?_
                                    rintro e wz ⟨rfl, hb⟩
                                    have HB := Lib.hid (HK.out.b.trans (hb.mono HK.out.b.size))
                                    clear hb
                                    go_wp2
                                    go_ret
                                    exact ⟨rfl, HB.out⟩
end Go.Proofs.Ytobmhamdkngehaa
