/-
  Parts of the proof, in the order in which they build: CoQ.
-/
import Derived.Maps.AppendAt
import Derived.Deep.CutRange
import Derived.Test.YtiacgaplhndlnaaN48
import Derived.Test.YtiacgaplhndlnaaN50
set_option linter.unusedVariables false
set_option linter.unusedSimpArgs false
namespace Go.Proofs.Ytiacgaplhndlnaa
open Go.RowKit Go.Shelf
open Lim

attribute [local go_sem] Oper.semAt_some

theorem errE_ok {wd : Int} {os : List Int} (he : errE wd os = 0) : Mp.Ok ⟨wd.toNat, os⟩ ∧ wd = (wd.toNat : Int) := countB_ok (by
  unfold errE at he; cases hc : countB wd os.length with
  | true => rfl
  | false => rw [hc] at he; cases he)
theorem cell_two_new (w : World) (x y : Value) (t : TypeId) : ∀ j u, [x, y][j]? = some u → (w.alloc (.cells #[x, y] t)).cell? ((⟨w.heap.size, 0, none⟩ : Addr).add j) = some u := by
  intro j u hj
  match j, hj with
  | 0, hj => simp at hj; subst hj; rw [Addr.add_lit]; simp [go_sem]
  | 1, hj => simp at hj; subst hj; rw [Addr.add_lit]; simp [go_sem]
  | n + 2, hj => simp at hj
theorem nxtR_le_of (R : List Int) (n : Nat) {t : Int} : ∀ (S : List (Nat × Nat)) (m : Int), m ≤ t → (∀ b, (b, n) ∈ S → fdg R b + 1 ≤ t) → nxtR R n S m ≤ t
  | [], m, h, _ => h
  | s :: S, m, h, hb => by
    unfold nxtR
    refine nxtR_le_of R n S _ ?_ (fun b h => hb b (List.mem_cons_of_mem _ h))
    by_cases e : s.2 = n
    · have h1 := hb s.1 (by rw [← e]; exact List.mem_cons_self)
      rw [if_pos e]
      split <;> omega
    · rw [if_neg e]; exact h
theorem inCount_lt {m : Mp} {r : Nat → Nat} {i : Nat} : ∀ t, i < t → inCount m r i t < t
  | 0, h => absurd h (Nat.not_lt_zero _)
  | t + 1, h => by
    by_cases e : i = t
    · subst e
      rw [inCount_skip (fun h => h.1 rfl)]
      have := inCount_le (m := m) (r := r) (i := i) i
      omega
    · have ih := inCount_lt (m := m) (r := r) (i := i) t (by omega)
      by_cases hn : In m r i t
      · rw [inCount_add hn]; omega
      · rw [inCount_skip hn]; omega
theorem nst_of {m : Mp} {r : Nat → Nat} {k : Nat} {A : Nat → Int} (hm : m.Ok) (hk : IsMany m r k) (hA : ∀ i, i < k → IsAr m r i k (A i)) : Nst k A (fun i => inCount m r i k) := by
  refine ⟨fun i hi e => ?_, fun i hi a e => ⟨?_, ?_⟩, fun i hi => ?_, fun i hi => inCount_lt k hi⟩
  · rcases hA i hi with ⟨-, h⟩ | ⟨a, h, -⟩
    · exact (inCount_zero k).2 h
    · omega
  · rcases hA i hi with ⟨h, -⟩ | ⟨a', h, h2, -⟩
    · omega
    · have : a' = a := by omega
      rw [← this]; exact h2
  · have h := hA i hi
    rw [e] at h
    exact h.depth hm hk.ex hi
  · rcases hA i hi with ⟨h, -⟩ | ⟨a, h, -⟩
    · exact .inl h
    · exact .inr ⟨a, h⟩
theorem Try.infoStrike : (Try.prog.info? 38).map (fun i => (i.zero, i.size, i.bytes)) = some (some (.agg #[.int .i64 0, .int .i64 0]), 2, 16) := by kernel_rfl
theorem stk_snoc (S : List (Nat × Nat)) (a i : Nat) : spans (stk (S ++ [(a, i)])) = spans (stk S) ++ [.int .i64 (a : Int), .int .i64 (i : Int)] := by simp [stk, spans]
theorem nst_held {C : Nat} {A : Nat → Int} {d : Nat → Nat} (h : Nst C A d) {n : Nat} (hn : n < C) : HeldAt (nstS A C) (nstG d C) (nstT d C) n := by
  have hG : ∀ k, fdg (nstG d C) k = if k < C then ((1 + d k % 2 : Nat) : Int) else 0 := fun k => fdg_map
  have hT : ∀ k, fdg (nstT d C) k = if k < C then ((d k + 1 : Nat) : Int) else 0 := fun k => fdg_map
  have hs : ∀ f, strk (nstG d C) n f (nstS A C) = true → ∃ b, b < C ∧ d n = d b + 1 ∧ fdg (nstG d C) b = f := fun f hf => by
    obtain ⟨b, hb, e⟩ := strk_iff.1 hf
    have h1 := nst_par h hb
    exact ⟨b, h1.2.1, h1.2.2, e⟩
  by_cases he : d n % 2 = 0
  · refine .inl ⟨by rw [hG, if_pos hn]; omega, ?_, ?_, ?_⟩
    · rw [← Bool.not_eq_true]
      intro e
      obtain ⟨b, hb, e1, e2⟩ := hs 1 e
      rw [hG, if_pos hb] at e2
      omega
    · rw [← Bool.not_eq_true]
      intro e
      obtain ⟨b, hb, e1, e2⟩ := hs 0 e
      rw [hG, if_pos hb] at e2
      omega
    · refine nxtR_le_of (nstT d C) n (t := fdg (nstT d C) n) (nstS A C) 1 (by rw [hT, if_pos hn]; omega) (fun b hb => ?_)
      have h1 := nst_par h hb
      rw [hT, hT, if_pos hn, if_pos h1.2.1]
      omega
  · refine .inr ⟨by rw [hG, if_pos hn]; omega, ?_⟩
    obtain ⟨b, hb⟩ := nst_odd h hn (fun e => by rw [e] at he; exact he rfl)
    have h1 := nst_par h hb
    refine ⟨b, hb, ?_, ?_⟩
    · rw [hG, if_pos h1.2.1]; omega
    · rw [hT, hT, if_pos hn, if_pos h1.2.1]; omega
def rwT (v : Value) (S : List (Nat × Nat)) : Row := ⟨38, 2, v, S.length, spans (stk S)⟩
set_option maxRecDepth 20000 in
set_option maxHeartbeats 4000000 in
theorem nestedt_any {B : Nat} {cv : Value} {l : List Int} {w : World} (hB : B ≤ w.heap.size) (hv : RS B w cv l.length (u8s l)) (hu : ∀ x ∈ l, 0 ≤ x ∧ x ≤ 255) :
    Calls Try.prog 3 #[cv] w fun e w' => e = .returned (.bool true) ∧ Below w.heap.size w w' := by
  have CO := Lib.hid (of_any hB hv hu)
  have HBS := Lib.hid hB
  obtain ⟨xa, xc, rfl, -⟩ := hv
  clear hB hu
  go_enter Try.func3, Try.ntmps3
  go_wp2_with fail
  refine CO.out.mono ?_
  rintro e w1 ⟨rfl, hdk, hb, hz⟩
  have CM := Lib.hid (made_any (C := 6) (R := 6) (w := w1) (by omega) (by omega) hdk (by omega))
  have HB1 := Lib.hid hb
  clear hdk hb hz CO
  go_wp2_with fail
  refine CM.out.mono ?_
  rintro e w2 ⟨wd, hi, v, os, rfl, hwd1, hwdC, hhi1, hhiR, hos, ho3, hown, hs⟩
  obtain ⟨m, hm⟩ : ∃ m : Mp, m = ⟨wd, os⟩ := ⟨_, rfl⟩
  have hmn : wd * hi ≤ 6 * 6 := Nat.mul_le_mul hwdC hhiR
  have he : errE wd os = 0 := errE_made hwd1 hhi1 (by omega) hos (fun o h => by have := ho3 o h; omega)
  have hok : m.Ok := by have h := (errE_ok he).1; rw [Int.toNat_natCast] at h; rw [hm]; exact h
  have HM : Hid (m.Ok ∧ m.n = m.wd * hi ∧ m.n ≤ 6 * 6 ∧ (∀ o ∈ m.os, 0 ≤ o ∧ o ≤ 3) ∧ errE m.wd m.os = 0 ∧ 1 ≤ m.wd ∧ m.wd ≤ 6 ∧ 1 ≤ hi ∧ hi ≤ 6) := Lib.hid (by rw [hm]; exact ⟨by rw [← hm]; exact hok, hos, by show os.length ≤ _; omega, ho3, he, hwd1, hwdC, hhi1, hhiR⟩)
  obtain ⟨rfl, rfl⟩ : wd = m.wd ∧ os = m.os := by rw [hm]; exact ⟨rfl, rfl⟩
  have hnn : m.os.length = m.n := rfl
  simp only [hnn] at hown hos ⊢
  clear hnn
  obtain ⟨ga, gc, rfl, -, -⟩ := RowK.of_owns hown (show 0 < m.n from hok.n0)
  have HV := Lib.hid (RS.of_owns hown)
  have hb2 : Below w.heap.size w w2 := HB1.out.trans (hs.below HB1.out.size (fun k e => by omega))
  have HB2 := Lib.hid hb2
  clear hm hmn he hok hos ho3 hown hs hb2 hwd1 hwdC hhi1 hhiR CM HB1
  go_upto_region 2 with (fail)
  have hb : Below w2.heap.size w2 (w2.alloc (.cells #[.int .i64 m.wd, .slice (some ⟨ga, 0, none⟩) m.n gc] 25)) := (Below.refl _ _).alloc (Nat.le_refl _) _
  have k0 : (w2.alloc (.cells #[.int .i64 m.wd, .slice (some ⟨ga, 0, none⟩) m.n gc] 25)).cell? ⟨w2.heap.size, 0, none⟩ = some (.int .i64 m.wd) := by simp [go_sem]
  have k1 : (w2.alloc (.cells #[.int .i64 m.wd, .slice (some ⟨ga, 0, none⟩) m.n gc] 25)).cell? ⟨w2.heap.size, 1, none⟩ = some (.slice (some ⟨ga, 0, none⟩) m.n gc) := by simp [go_sem]
  generalize w2.alloc (.cells #[.int .i64 m.wd, .slice (some ⟨ga, 0, none⟩) m.n gc] 25) = w3 at hb k0 k1 ⊢
  obtain ⟨q3, hq⟩ : ∃ q, q = w2.heap.size := ⟨_, rfl⟩
  rw [← hq] at k0 k1 ⊢
  have HB := Lib.hid (HB2.out.trans (hb.mono HB2.out.size))
  replace HV := Lib.hid (RS.on HV.out hb)
  clear hb hq HB2 w2
  go_wp2_with fail
  refine (Around_any (wd := m.wd) (B := w3.heap.size) (by have := HM.out.2.2.1; show m.n ≤ _; omega) (Nat.le_refl _) HV.out).mono ?_
  rintro e w4 ⟨hb, ⟨-, v, r, k, rfl, hr, hk, A, hA, ho⟩ | ⟨he, -⟩⟩
  case inr => exact absurd HM.out.2.2.2.2.1 he
  rw [Int.toNat_natCast] at hr hk hA
  have HR : Hid (IsReg m r ∧ IsMany m r k) := Lib.hid ⟨hr, hk⟩
  have HA : Hid (∀ i, i < k → IsAr m r i k (A i)) := Lib.hid hA
  have hk1 : 1 ≤ k := hk.pos HM.out.1
  have hk36 : k ≤ 36 := Nat.le_trans hk.le HM.out.2.2.1
  obtain ⟨gr, cr, rfl, -, -⟩ := RowK.of_owns ho hk1
  have HO := Lib.hid (RS.of_owns ho)
  replace HB := Lib.hid (HB.out.trans (hb.mono HB.out.size))
  replace HV := Lib.hid (RS.on HV.out hb)
  replace k0 := hb.on k0
  replace k1 := hb.on k1
  clear hb hr hk ho hA
  go_wp2_with fail
  refine (Depths_any (wd := m.wd) (B := w4.heap.size) (by have := HM.out.2.2.1; show m.n ≤ _; omega) (Nat.le_refl _) HV.out).mono ?_
  rintro e w5 ⟨hb, ⟨-, v, r', k', rfl, hr, hk, ho⟩ | ⟨he, -⟩⟩
  case inr => exact absurd HM.out.2.2.2.2.1 he
  rw [Int.toNat_natCast] at hr hk ho
  obtain ⟨hrr, rfl⟩ := reg_same HR.out.1 hr HR.out.2 hk
  have hdd : depL m r' k = depL m r k := List.map_congr_left (fun i _ => by rw [inCount_congr hrr])
  replace ho : w5.ownsRow w4.heap.size 3 1 v k (ints (depL m r k)) := by rw [← hdd]; exact ho
  obtain ⟨gd, cd, rfl, -, -⟩ := RowK.of_owns ho hk1
  have HD := Lib.hid (RS.of_owns ho)
  replace HB := Lib.hid (HB.out.trans (hb.mono HB.out.size))
  replace HV := Lib.hid (RS.on HV.out hb)
  replace HO := Lib.hid (RS.on HO.out hb)
  replace k0 := hb.on k0
  replace k1 := hb.on k1
  clear hb hr hk ho hrr hdd
  have HN : Hid (Nst k A (fun i => inCount m r i k)) := Lib.hid (nst_of HM.out.1 HR.out.2 HA.out)
  obtain ⟨d, hd⟩ : ∃ d : Nat → Nat, d = fun i => inCount m r i k := ⟨_, rfl⟩
  have hdep : depL m r k = (List.range k).map (fun i => ((d i : Nat) : Int)) := by rw [hd]; rfl
  rw [hdep] at HD
  rw [← hd] at HN
  clear hd hdep k0 k1 HA HR HV
  by_cases h14 : 14 < k
  · have h14' : decide ((14 : Int) < k) = true := by simp; omega
    go_wp2_with fail
    refine (awake13_any _).mono ?_
    rintro e wz ⟨rfl, hb⟩
    have HBZ := Lib.hid (HB.out.trans (hb.mono HB.out.size))
    clear hb
    go_wp2
    go_ret
    exact ⟨rfl, HBZ.out⟩
  · have h14' : decide ((14 : Int) < k) = false := by simp; omega
    go_upto_region 9 with (fail)
    have H0 : Hid (Mem w5 w5.heap.size [] [nilRow 38 2, nilRow 3 1, nilRow 3 1] [(w5.heap.size, .cells #[.int .i64 k, .slice none 0 0, .slice none 0 0] 36 (0, 0))] (w5.alloc (.cells #[.int .i64 k, .slice none 0 0, .slice none 0 0] 36))) := Lib.hid ((((((Mem.rowsR (Below.refl _ w5) (Nat.le_refl _) (fun _ h => absurd h List.not_mem_nil)).lay (.cells #[.int .i64 k, .slice none 0 0, .slice none 0 0] 36 (0, 0))).nilQ 3 1).nilQ 3 1).nilQ 38 2))
    obtain ⟨q8, hq8⟩ : ∃ q, q = w5.heap.size := ⟨_, rfl⟩
    rw [← hq8] at H0 ⊢
    have HQ8 := Lib.hid hq8
    generalize w5.alloc (.cells #[.int .i64 k, .slice none 0 0, .slice none 0 0] 36) = w6 at H0 ⊢
    have HK14 : Hid (1 ≤ k ∧ k ≤ 14) := Lib.hid (by omega)
    have hk14 : k ≤ 14 := by omega
    clear hq8 h14 h14'
    have H0' : Hid (Mem w5 q8 [] [rwT (.slice none 0 0) (nstS A 0), rwI (.slice none 0 0) 0 (nstT d 0), rwI (.slice none 0 0) 0 (nstG d 0)] [(q8, .cells #[.int .i64 k, .slice none 0 0, .slice none 0 0] 36 (0, 0))] w6) := H0
    clear H0
    go_wp2_with fail
    go_loopw [9, 10, 50] (fun rv wv iv W => ∃ (i : Nat) (sv : Value), i ≤ k ∧ iv = .int .i64 i ∧ Hid (Mem w5 q8 [] [rwT sv (nstS A i), rwI rv i (nstT d i), rwI wv i (nstG d i)] [(q8, .cells #[.int .i64 k, sv, .slice none 0 0] 36 (0, 0))] W)) (fun _ _ iv _ => k - (intOf iv).toNat)
    case atStart => exact ⟨0, .slice none 0 0, Nat.zero_le _, rfl, H0'⟩
    case round =>
      clear H0'
      obtain ⟨i, sv, hi, rfl, hI⟩ := hrel
      by_cases hik : i < k
      · have hik' : (i : Int) < k := by omega
        have c1 := rs_cell (p := i) (HO.out.below (B := w5.heap.size) (w' := wr) (by rw [← HQ8.out]; exact hI.out.b)) (by simp; exact hik)
        rw [getD_mapR A hik] at c1
        have c2 := rs_cell (p := i) (HD.out.below (B := w5.heap.size) (w' := wr) (by rw [← HQ8.out]; exact hI.out.b)) (by simp; exact hik)
        rw [getD_mapR (fun i => ((d i : Nat) : Int)) hik] at c2
        obtain ⟨i0, hi0, hz0, hz1, hz2⟩ := info_parts Try.infoInt
        have HI0 := Lib.hid (And.intro hi0 (And.intro hz0 (And.intro hz1 hz2)))
        clear hi0 hz0 hz1 hz2
        have HSL : Hid ((nstS A i).length ≤ 14) := Lib.hid (Nat.le_trans (nstS_length A i) (by omega))
        have HDI : Hid (d i < 14) := Lib.hid (by have := HN.out.lt i hik; omega)
        obtain ⟨e, he⟩ : ∃ e, e = A i := ⟨_, rfl⟩
        rw [← he] at c1
        have HE := Lib.hid he
        have HC2 := Lib.hid c2
        clear he c2
        go_upto_if 56 with (fail)
        obtain ⟨bb, hbb⟩ : ∃ bb, bb = (e != -1) := ⟨_, rfl⟩
        rw [← hbb]
        have HBB := Lib.hid hbb
        clear hbb
        obtain ⟨sa, sc, esv⟩ : ∃ a cap, sv = .slice a (nstS A i).length cap := row_form (r := rwT sv (nstS A i)) (hI.out.q _ List.mem_cons_self)
        subst esv
        go_cut [] from 56 to 64 (fun wc => ∃ sv', Hid (Mem w5 q8 [] [rwT sv' (nstS A (i + 1)), rwI u9 i (nstT d i), rwI u10 i (nstG d i)] [(q8, .cells #[.int .i64 k, sv', .slice none 0 0] 36 (0, 0))] wc))
        case first =>
          cases bb with
          | false =>
            have HEI : Hid (nstS A (i + 1) = nstS A i) := Lib.hid (by
              have h1 := HBB.out
              have h2 : A i = -1 := by rw [← HE.out]; simpa using h1.symm
              rw [nstS, if_pos h2, List.append_nil])
            go_wp2
            go_meet
            case rel => exact ⟨_, by rw [HEI.out]; exact hI⟩
          | true =>
            obtain ⟨a, ha, HEI⟩ : ∃ a : Nat, e = a ∧ Hid (nstS A (i + 1) = nstS A i ++ [(a, i)] ∧ a < k) := by
              have h1 := HBB.out
              have h2 : e ≠ -1 := by intro h; rw [h] at h1; exact absurd h1 (by decide)
              rw [HE.out] at h2
              rcases HN.out.or i hik with h | ⟨a, h⟩
              · exact absurd h h2
              · exact ⟨a, by rw [HE.out, h], Lib.hid ⟨by rw [nstS, if_neg h2, h]; rfl, (HN.out.nin i hik a h).1⟩⟩
            subst ha
            obtain ⟨i1, hi1, hy0, hy1, hy2⟩ := info_parts Try.infoStrike
            have HI1 := Lib.hid (And.intro hi1 (And.intro hy0 (And.intro hy1 hy2)))
            have b0 : wr.cell? ⟨q8, 1, none⟩ = some (.slice sa (nstS A i).length sc) := by
              have h1 := (hI.out.x _ (List.mem_singleton.2 rfl)).2
              simp [World.cell?, h1]
            have HMA : Hid (Mem w5 q8 [] [rwT (.slice sa (nstS A i).length sc) (nstS A i), rwI u9 i (nstT d i), rwI u10 i (nstG d i)] [(q8, .cells #[.int .i64 k, .slice sa (nstS A i).length sc, .slice none 0 0] 36 (0, 0))] (wr.alloc (.cells #[.int .i64 a, .int .i64 i] 38))) := Lib.hid (hI.out.grow ((Below.refl _ wr).alloc (Nat.le_refl _) _))
            have HOW : Hid ((wr.alloc (.cells #[.int .i64 a, .int .i64 i] 38)).ownsRow q8 38 2 (.slice sa (nstS A i).length sc) (nstS A i).length (spans (stk (nstS A i)))) := Lib.hid (HMA.out.q (rwT (.slice sa (nstS A i).length sc) (nstS A i)) List.mem_cons_self)
            have hsl : (nstS A i).length ≤ 14 := HSL.out
            clear hi1 hy0 hy1 hy2
            go_wp2_with (at_builtin; refine wpList_append_own_at _ rfl _ _ 33 rfl q8 38 i1 (.agg #[.int .i64 0, .int .i64 0]) 2 16 Try.underlying33 HI1.out.1 HI1.out.2.1 HI1.out.2.2.1 HI1.out.2.2.2 rfl (by decide) _ _ _ rfl HOW.out ⟨wr.heap.size, 0, none⟩ 1 1 [.int .i64 a, .int .i64 i] rfl rfl (cell_two_new _ _ _ _) (by simp [Value.oneCell']) (by unfold maxLen; omega) (by omega) HMA.out.o ?_; intro v' w8 hown8 hgrow _ hat; have HM8 : Hid (Mem w5 q8 [] [rwT v' (nstS A (i + 1)), rwI u9 i (nstT d i), rwI u10 i (nstG d i)] [(q8, .cells #[.int .i64 k, .slice sa (nstS A i).length sc, .slice none 0 0] 36 (0, 0))] w8) := Lib.hid (by { rw [HEI.out.1]; exact HMA.out.putQ (Q1 := []) (r' := rwT v' (nstS A i ++ [(a, i)])) hgrow (by { show w8.ownsRow q8 38 2 v' (nstS A i ++ [(a, i)]).length (spans (stk (nstS A i ++ [(a, i)]))); rw [stk_snoc, List.length_append]; exact hown8 }) (hat.imp id fun h => ⟨_, h, Nat.le_refl _⟩) }); obtain ⟨g8, k8, e8⟩ : ∃ g cap, v' = .slice (some ⟨g, 0, none⟩) (nstS A (i + 1)).length cap := form_pos (r := rwT v' (nstS A (i + 1))) (HM8.out.q _ List.mem_cons_self) (by { show 0 < (nstS A (i + 1)).length; rw [HEI.out.1, List.length_append]; simp }); subst e8; have b1 : w8.cell? ⟨q8, 1, none⟩ = some (.slice sa (nstS A i).length sc) := (by { have h1 := (HM8.out.x _ (List.mem_singleton.2 rfl)).2; simp [World.cell?, h1] }); have b2 : w8.frozen? ⟨q8, 1, none⟩ = false := (by { have h1 := (HM8.out.x _ (List.mem_singleton.2 rfl)).2; simp [World.frozen?, h1] }); clear hown8 hgrow hat)
            go_meet
            case rel => exact ⟨_, Lib.hid (HM8.out.putX (X1 := []) 1 _)⟩
        case rest =>
          obtain ⟨sv', hJ⟩ := hcut
          have c2 := rs_cell (p := i) (HD.out.below (B := w5.heap.size) (w' := wc) (by rw [← HQ8.out]; exact hJ.out.b)) (by simp; exact hik)
          rw [getD_mapR (fun i => ((d i : Nat) : Int)) hik] at c2
          clear hI HC2 c1
          obtain ⟨dv, hdv⟩ : ∃ dv, dv = d i := ⟨_, rfl⟩
          rw [← hdv] at c2
          obtain ⟨x, hx⟩ : ∃ x : Int, x = (dv : Int) + 1 := ⟨_, rfl⟩
          have hdv14 : dv < 14 := by rw [hdv]; exact HDI.out
          have ew : IntKind.i64.wrap ((dv : Int) + 1) = x := by rw [hx]; exact IntWalk.i64_in _ (by omega)
          have HT1 : Hid (nstT d (i + 1) = nstT d i ++ [x]) := Lib.hid (by unfold nstT; rw [List.range_succ, List.map_append, hx, hdv]; rfl)
          have HDV := Lib.hid hdv
          clear hx hdv
          have HMA : Hid (Mem w5 q8 [] [rwT sv' (nstS A (i + 1)), rwI u9 i (nstT d i), rwI u10 i (nstG d i)] [(q8, .cells #[.int .i64 k, sv', .slice none 0 0] 36 (0, 0))] (wc.alloc (.cells #[.int .i64 x] 3))) := Lib.hid (hJ.out.grow ((Below.refl _ wc).alloc (Nat.le_refl _) _))
          have HOW : Hid ((wc.alloc (.cells #[.int .i64 x] 3)).ownsRow q8 3 1 u9 i (ints (nstT d i))) := Lib.hid (HMA.out.q (rwI u9 i (nstT d i)) (List.mem_cons_of_mem _ List.mem_cons_self))
          obtain ⟨ra, rc, eu9⟩ : ∃ a cap, u9 = .slice a i cap := row_form (r := rwI u9 i (nstT d i)) (hJ.out.q _ (List.mem_cons_of_mem _ List.mem_cons_self))
          obtain ⟨wa, wcp, eu10⟩ : ∃ a cap, u10 = .slice a i cap := row_form (r := rwI u10 i (nstG d i)) (hJ.out.q _ (List.mem_cons_of_mem _ (List.mem_cons_of_mem _ List.mem_cons_self)))
          subst eu9 eu10
          clear hJ
          go_upto_region 16 with (at_builtin; refine wpList_append_own_at _ rfl _ _ 23 rfl q8 3 i0 (.int .i64 0) 1 8 Try.underlying23 HI0.out.1 HI0.out.2.1 HI0.out.2.2.1 HI0.out.2.2.2 rfl (by decide) _ _ _ rfl HOW.out ⟨wc.heap.size, 0, none⟩ 1 1 [.int .i64 x] rfl rfl (cell_one_new _ _ _) (by simp [Value.oneCell']) (by unfold maxLen; omega) (by omega) HMA.out.o ?_; intro v9 w8 hown8 hgrow _ hat; have HM8 : Hid (Mem w5 q8 [] [rwT sv' (nstS A (i + 1)), rwI v9 (i + 1) (nstT d (i + 1)), rwI (.slice wa i wcp) i (nstG d i)] [(q8, .cells #[.int .i64 k, sv', .slice none 0 0] 36 (0, 0))] w8) := Lib.hid (by { rw [HT1.out]; exact HMA.out.push (Q1 := [_]) hown8 hgrow hat }); clear hown8 hgrow hat)
          clear c2 ew HMA HOW
          have c3 := rs_cell (p := i) (HD.out.below (B := w5.heap.size) (w' := w8) (by rw [← HQ8.out]; exact HM8.out.b)) (by simp; exact hik)
          rw [getD_mapR (fun i => ((d i : Nat) : Int)) hik, ← HDV.out] at c3
          obtain ⟨d2, hd2⟩ : ∃ d2 : Nat, d2 = dv % 2 := ⟨_, rfl⟩
          have e5 : (dv : Int).tmod 2 = (d2 : Int) := by rw [hd2]; exact (Int.ofNat_tmod dv 2).symm
          have hd22 : d2 < 2 := by omega
          have HT2 : Hid (nstG d (i + 1) = nstG d i ++ [1 + (d2 : Int)]) := Lib.hid (by
            unfold nstG
            rw [List.range_succ, List.map_append, hd2, HDV.out]
            rfl)
          clear hd2
          have HMB : Hid (Mem w5 q8 [] [rwT sv' (nstS A (i + 1)), rwI v9 (i + 1) (nstT d (i + 1)), rwI (.slice wa i wcp) i (nstG d i)] [(q8, .cells #[.int .i64 k, sv', .slice none 0 0] 36 (0, 0))] (w8.alloc (.cells #[.int .i64 (1 + (d2 : Int))] 3))) := Lib.hid (HM8.out.grow ((Below.refl _ w8).alloc (Nat.le_refl _) _))
          have HOX : Hid ((w8.alloc (.cells #[.int .i64 (1 + (d2 : Int))] 3)).ownsRow q8 3 1 (.slice wa i wcp) i (ints (nstG d i))) := Lib.hid (HMB.out.q (rwI (.slice wa i wcp) i (nstG d i)) (List.mem_cons_of_mem _ (List.mem_cons_of_mem _ List.mem_cons_self)))
          go_wp2_with (at_builtin; refine wpList_append_own_at _ rfl _ _ 23 rfl q8 3 i0 (.int .i64 0) 1 8 Try.underlying23 HI0.out.1 HI0.out.2.1 HI0.out.2.2.1 HI0.out.2.2.2 rfl (by decide) _ _ _ rfl HOX.out ⟨w8.heap.size, 0, none⟩ 1 1 [.int .i64 (1 + (d2 : Int))] rfl rfl (cell_one_new _ _ _) (by simp [Value.oneCell']) (by unfold maxLen; omega) (by omega) HMB.out.o ?_; intro v10 w10 hown8 hgrow _ hat; have HM10 : Hid (Mem w5 q8 [] [rwT sv' (nstS A (i + 1)), rwI v9 (i + 1) (nstT d (i + 1)), rwI v10 (i + 1) (nstG d (i + 1))] [(q8, .cells #[.int .i64 k, sv', .slice none 0 0] 36 (0, 0))] w10) := Lib.hid (by { rw [HT2.out]; exact HMB.out.push (Q1 := [_, _]) hown8 hgrow hat }); clear hown8 hgrow hat)
          go_roundw
          case rel => exact ⟨i + 1, sv', by omega, by go_num, HM10⟩
          case measure => simp [intOf]; omega
      · obtain rfl : i = k := by omega
        have hik' : ¬ (i : Int) < i := by omega
        obtain ⟨sa, sc, esv⟩ : ∃ a cap, sv = .slice a (nstS A i).length cap := row_form (r := rwT sv (nstS A i)) (hI.out.q _ List.mem_cons_self)
        subst esv
        obtain ⟨ra, rc, eu9⟩ : ∃ a cap, u9 = .slice a i cap := row_form (r := rwI u9 i (nstT d i)) (hI.out.q _ (List.mem_cons_of_mem _ List.mem_cons_self))
        obtain ⟨wa, wcp, eu10⟩ : ∃ a cap, u10 = .slice a i cap := row_form (r := rwI u10 i (nstG d i)) (hI.out.q _ (List.mem_cons_of_mem _ (List.mem_cons_of_mem _ List.mem_cons_self)))
        subst eu9 eu10
        have hx := (hI.out.x _ (List.mem_singleton.2 rfl)).2
        have b0 : wr.cell? ⟨q8, 0, none⟩ = some (.int .i64 i) := by simp [World.cell?, hx]
        have b1 : wr.cell? ⟨q8, 1, none⟩ = some (.slice sa (nstS A i).length sc) := by simp [World.cell?, hx]
        have b2 : wr.cell? ⟨q8, 2, none⟩ = some (.slice none 0 0) := by simp [World.cell?, hx]
        have HOK : Hid (CaseOk i (nstS A i)) := Lib.hid ⟨HK14.out, by have := nstS_length A i; omega, fun s hs => by
          obtain ⟨b, n⟩ := s
          have h1 := nst_par HN.out hs
          exact ⟨h1.2.1, h1.1⟩, nstS_nodup A i⟩
        have HRS : Hid (RS wr.heap.size wr (.slice sa (nstS A i).length sc) (nstS A i).length (spans (stk (nstS A i)))) := Lib.hid (RS.of_owns (hI.out.q (rwT (.slice sa (nstS A i).length sc) (nstS A i)) List.mem_cons_self))
        have HRT : Hid (RS wr.heap.size wr (.slice ra i rc) (nstT d i).length (ints (nstT d i)) ∧ RS wr.heap.size wr (.slice wa i wcp) (nstG d i).length (ints (nstG d i))) := Lib.hid ⟨hI.out.rsI (v := .slice ra i rc) (n := i) (.inr (List.mem_cons_of_mem _ List.mem_cons_self)) (by simp [nstT]), hI.out.rsI (v := .slice wa i wcp) (n := i) (.inr (List.mem_cons_of_mem _ (List.mem_cons_of_mem _ List.mem_cons_self))) (by simp [nstG])⟩
        have HB9 : Hid (Below w.heap.size w wr) := Lib.hid (HB.out.trans (hI.out.b.mono (by rw [HQ8.out]; exact HB.out.size)))
        have CA := Lib.hid (Award_any HOK.out (Nat.le_refl _) HRS.out)
        clear hx hI
        go_wp2_with fail
        refine CA.out.mono ?_
        rintro e w10 ⟨va, F, R, rfl, hc, hst, ho, hb⟩
        have eG : F.take i = nstG d i := award_is (fun s hs => (HOK.out.lt s hs).1) hk14 hc hst (by simp [nstG]) (nst_sound HN.out) (fun n hn => nst_stuck hn)
        rw [eG] at ho
        have HO2 := Lib.hid (RS.of_owns ho)
        obtain ⟨va1, va2, rfl⟩ : ∃ a c, va = .slice a i c := by
          obtain ⟨a, c, e, -⟩ := HO2.out
          exact ⟨a, c, e⟩
        have HB10 := Lib.hid (HB9.out.trans (hb.mono HB9.out.size))
        have HR10 := Lib.hid (And.intro (HRS.out.below hb |>.mono hb.size) (And.intro (HRT.out.1.below hb |>.mono hb.size) (HRT.out.2.below hb |>.mono hb.size)))
        replace b0 := hb.on b0
        replace b1 := hb.on b1
        replace b2 := hb.on b2
        have CH := Lib.hid (Holds_any HOK.out (Nat.le_refl _) HR10.out.1 (G := nstG d i) (T := nstT d i) (by simp [nstG]) (by simp [nstT]) (fun x hx => by
          obtain ⟨n, -, rfl⟩ := List.mem_map.1 hx
          omega) (fun x hx => by
          obtain ⟨n, hn, rfl⟩ := List.mem_map.1 hx
          have := HN.out.lt n (List.mem_range.1 hn)
          have := HK14.out
          omega) HR10.out.2.2 HR10.out.2.1 (fun n hn => nst_held HN.out hn))
        clear hc hst ho hb eG CA HRS HRT HB9
        go_wp2_with fail
        refine CH.out.mono ?_
        rintro e w11 ⟨rfl, hb⟩
        have HB11 := Lib.hid (HB10.out.trans (hb.mono HB10.out.size))
        have CE := Lib.hid (sequal_any (w := w11) (l := nstG d i) (by simp [nstG]; omega) (v := .slice va1 i va2) (u := .slice wa i wcp) (by have h := RS.on HO2.out hb; simpa [nstG] using h) (by exact RS.on HR10.out.2.2 hb))
        clear hb CH b0 b1 b2 HR10 HB10
        go_wp2_with fail
        refine CE.out.mono ?_
        rintro e w12 ⟨rfl, hb⟩
        have HB12 := Lib.hid (HB11.out.trans (hb.mono HB11.out.size))
        clear hb CE
        go_wp2_with fail
        refine (awake13_any _).mono ?_
        rintro e wz ⟨rfl, hb⟩
        have HBZ := Lib.hid (HB12.out.trans (hb.mono HB12.out.size))
        clear hb
        go_wp2
        go_ret
        exact ⟨rfl, HBZ.out⟩
end Go.Proofs.Ytiacgaplhndlnaa
