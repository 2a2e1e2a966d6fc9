/-
  Parts of the proof, in the order in which they build: QiN.
-/
import Derived.Test.YtohjinbgbfggcaaA13
import Derived.Test.YtohjinbgbfggcaaB1
import Derived.Test.YtohjinbgbfggcaaA16
set_option linter.unusedVariables false
set_option linter.unusedSimpArgs false
namespace Go.Proofs.Ytohjinbgbfggcaa
open Go.RowKit Go.Shelf
open Lim

/-- what Mend answers -/
def MendAns (w : World) (p : Pf) (xs : List Int) (lost : Int) (e : Ending) (w' : World) : Prop :=
  Below w.heap.size w w' ∧ ∃ (v : Value) (er : Int) (R : List Int), e = .returned (.tuple #[v, .int .i64 er]) ∧ w'.ownsRow w.heap.size 3 1 v R.length (ints R) ∧
    ((p.err ≠ 0 ∧ R = [] ∧ er = p.err) ∨ (p.err = 0 ∧ inAll p.n xs = false ∧ R = [] ∧ er = 2) ∨ (p.err = 0 ∧ inAll p.n xs = true ∧ holdsP p xs = false ∧ R = [] ∧ er = 9) ∨
      (p.err = 0 ∧ inAll p.n xs = true ∧ holdsP p xs = true ∧ inR lost 1 ((xs.length : Int) - 2) = false ∧ R = [] ∧ er = 2) ∨
      (p.err = 0 ∧ inAll p.n xs = true ∧ holdsP p xs = true ∧ inR lost 1 ((xs.length : Int) - 2) = true ∧
        ((R = [] ∧ er = 7 ∧ ∀ L, ¬ Ch p.n p.sure (xs.getD lost.toNat 0) (xs.getD (lost.toNat + 1) 0).toNat (xs.getD (lost.toNat - 1) 0).toNat L) ∨
         (er = 0 ∧ ∃ L, IsBest p.n p.sure (xs.getD lost.toNat 0) (xs.getD (lost.toNat + 1) 0).toNat (xs.getD (lost.toNat - 1) 0).toNat L ∧ R = xs.take (lost.toNat - 1) ++ L.map Int.ofNat ++ xs.drop (lost.toNat + 2)))))
theorem IsNeed.congr {n : Nat} {S S' : Nat → Nat → Bool} (hS : ∀ i j, i < j → j < n → S i j = S' i j) {w : Int} {t i : Nat} {o : Option Nat} (h : IsNeed n S w t i o) : IsNeed n S' w t i o :=
  ⟨fun L hL => h.least L (hL.congr (fun i j h1 h2 => (hS i j h1 h2).symm)), fun m hm => let ⟨L, h1, h2⟩ := h.hit m hm; ⟨L, h1.congr hS, h2⟩⟩
/-- pillars that hold rise -/
theorem holds_up {p : Pf} {xs : List Int} (h : holdsP p xs = true) {k : Nat} (hk : k + 1 < xs.length) : xs.getD k 0 < xs.getD (k + 1) 0 := by
  unfold holdsP at h
  simp only [Bool.and_eq_true, List.all_eq_true, List.mem_range] at h
  have := h.2.2.2 k (by omega)
  unfold stepOk at this
  simp only [Bool.and_eq_true, decide_eq_true_eq] at this
  exact this.1
theorem inAll_at {n : Nat} {xs : List Int} (h : inAll n xs = true) {k : Nat} (hk : k < xs.length) : 0 ≤ xs.getD k 0 ∧ xs.getD k 0 < n := by
  have h1 := (List.all_eq_true.1 h) xs[k] (List.getElem_mem hk)
  have h2 := inR_iff.1 h1
  rw [List.getD_eq_getElem?_getD, List.getElem?_eq_getElem hk]
  simp only [Option.getD_some]
  omega
set_option maxRecDepth 20000 in
set_option maxHeartbeats 2000000 in
theorem Mend_any {B : Nat} {p : Pf} {av gv v : Value} {xs : List Int} {lost : Int} {w : World} (hB : B ≤ w.heap.size) (ha : RS B w av p.ats.length (ints p.ats)) (hg : RS B w gv p.gr.length (spans p.gr)) (hv : RS B w v xs.length (ints xs)) (hcap : ∀ a c, v = .slice a xs.length c → xs.length ≤ c) (hm : xs.length ≤ 90000) :
    Calls Try.prog 32 #[.agg #[av, gv, .int .i64 p.tall, .int .i64 p.lo, .int .i64 p.hi], v, .int .i64 lost] w (MendAns w p xs lost) := by
  have HXS := Lib.hid (And.intro hv hm)
  have HR := Lib.hid (And.intro hB (And.intro ha hg))
  obtain ⟨tl, htl⟩ : ∃ x, x = p.tall := ⟨_, rfl⟩
  obtain ⟨lo, hlo⟩ : ∃ x, x = p.lo := ⟨_, rfl⟩
  obtain ⟨hi, hhi⟩ : ∃ x, x = p.hi := ⟨_, rfl⟩
  have HOP : Hid (∀ W, Below w.heap.size w W → Calls Try.prog 57 #[.agg #[av, gv, .int .i64 tl, .int .i64 lo, .int .i64 hi], v] W (HeldAns W p av gv xs)) := Lib.hid fun W hW => by
    rw [htl, hlo, hhi]
    exact held_any (Nat.le_trans hB hW.size) (ha.below (hW.mono hB)) (hg.below (hW.mono hB)) (hv.below (hW.mono hB)) hm
  rw [← htl, ← hlo, ← hhi]
  have HT := Lib.hid (And.intro htl (And.intro hlo hhi))
  obtain ⟨va, vc, rfl, -⟩ := hv
  obtain ⟨m, hml⟩ : ∃ m, m = xs.length := ⟨_, rfl⟩
  have hvc0 : xs.length ≤ vc := hcap _ _ rfl
  rw [← hml] at HXS HOP hvc0 ⊢
  clear hcap
  have m9 : m ≤ 90000 := HXS.out.2
  have HML := Lib.hid hml
  have HM : Hid (Below w.heap.size w (w.alloc (.cells #[av, gv, .int .i64 tl, .int .i64 lo, .int .i64 hi] 30)) ∧ (w.alloc (.cells #[av, gv, .int .i64 tl, .int .i64 lo, .int .i64 hi] 30)).heap[w.heap.size]? = some (.cells #[av, gv, .int .i64 tl, .int .i64 lo, .int .i64 hi] 30 (0, 0))) := Lib.hid ⟨(Below.refl _ w).alloc (Nat.le_refl _) _, heap_alloc_newP w _⟩
  clear hB htl hlo hhi ha hg hm hml
  go_enter Try.func32, Try.ntmps32
  go_upto_region 1 with (fail)
  obtain ⟨q, hq⟩ : ∃ q, q = w.heap.size := ⟨_, rfl⟩
  have HQ := Lib.hid hq.symm
  rw [← hq] at HM
  simp only [← hq]
  clear hq
  generalize w.alloc (.cells #[av, gv, .int .i64 tl, .int .i64 lo, .int .i64 hi] 30) = w1 at HM ⊢
  obtain ⟨⟨k0, k1, k2, k3, k4⟩, -⟩ := five_cells HM.out.2
  have HW1 : Hid (Below w.heap.size w w1) := Lib.hid (by rw [HQ.out]; exact HM.out.1)
  go_wp2_with fail
  refine (HOP.out _ HW1.out).mono ?_
  rintro e w2 ⟨hb2, hans⟩
  clear k0 k1 k2 k3 k4
  have HB2 : Hid (Below w.heap.size w w2) := Lib.hid (HW1.out.trans (hb2.mono HW1.out.size))
  clear hb2 HOP
  rcases hans with ⟨hne, rfl⟩ | ⟨he, hi2, rfl⟩ | ⟨he, hi2, b, rfl, hge, hc, hk⟩
  · obtain ⟨er, her⟩ : ∃ x, x = p.err := ⟨_, rfl⟩
    have HER := Lib.hid (And.intro her hne)
    rw [← her] at hne ⊢
    clear her
    have d1 : (er != 0) = true := by simp [hne]
    clear hne
    go_wp2
    go_ret2
    exact ⟨HB2.out, _, _, [], rfl, ownsRow_zero _ _ _ _, .inl ⟨HER.out.2, rfl, HER.out.1⟩⟩
  · have HE := Lib.hid (And.intro he hi2)
    clear he hi2
    go_wp2
    go_ret2
    exact ⟨HB2.out, _, _, [], rfl, ownsRow_zero _ _ _ _, .inr (.inl ⟨HE.out.1, HE.out.2, rfl, rfl⟩)⟩
  · have HP : Hid p.Ok := Lib.hid (err_ok he)
    have HE := Lib.hid (And.intro he hi2)
    obtain ⟨ab, ao, ac, gb, go, gc, rfl, rfl, hl⟩ := pf_lists HP.out HR.out.2.1 HR.out.2.2
    obtain ⟨n, hn⟩ : ∃ x, x = p.n := ⟨_, rfl⟩
    have HW : Hid (WkN b n ac (some ⟨ab, ao, none⟩) (suTo p p.n 0) w2) := Lib.hid ⟨by rw [hn]; exact hc.c0, fun i j hi hj => hk.s i j hi hj⟩
    rw [← hn]
    have HN : Hid (n = p.n) := Lib.hid hn
    have n40 : n ≤ 40 := by rw [hn]; exact HP.out.n40
    clear hn hc hk hl he hge hi2
    cases hh : holdsP p xs with
    | false =>
      have HH := Lib.hid hh
      clear hh
      go_wp2
      go_ret2
      exact ⟨HB2.out, _, _, [], rfl, ownsRow_zero _ _ _ _, .inr (.inr (.inl ⟨HE.out.1, HE.out.2, HH.out, rfl, rfl⟩))⟩
    | true =>
      have HH := Lib.hid hh
      clear hh
      obtain ⟨l2, hl2⟩ : ∃ x, x = (m : Int) - 2 := ⟨_, rfl⟩
      have hw2 : IntKind.i64.wrap ((m : Int) - 2) = l2 := by rw [hl2]; exact IntWalk.i64_in _ (by omega)
      have HL2 := Lib.hid hl2
      clear hl2
      go_wp2_with fail
      refine (in_any _ _ _ _).mono ?_
      rintro e w3 ⟨rfl, rfl⟩
      cases hin : inR lost 1 l2 with
      | false =>
        have HI : Hid (inR lost 1 ((xs.length : Int) - 2) = false) := Lib.hid (by rw [← HML.out, ← HL2.out]; exact hin)
        clear hin
        go_wp2
        go_ret2
        exact ⟨HB2.out, _, _, [], rfl, ownsRow_zero _ _ _ _, .inr (.inr (.inr (.inl ⟨HE.out.1, HE.out.2, HH.out, HI.out, rfl, rfl⟩)))⟩
      | true =>
        have HI : Hid (inR lost 1 ((xs.length : Int) - 2) = true) := Lib.hid (by rw [← HML.out, ← HL2.out]; exact hin)
        have hii := inR_iff.1 hin
        rw [HL2.out] at hii
        clear hin
        obtain ⟨k, rfl⟩ : ∃ k : Nat, lost = ((k + 1 : Nat) : Int) := ⟨lost.toNat - 1, by omega⟩
        have hkm : k + 2 < m := by omega
        obtain ⟨vb, vo, rfl, hvc⟩ : ∃ vb vo, va = some ⟨vb, vo, none⟩ ∧ Hid (∀ W, Below w.heap.size w W → (vb < B) ∧ (∀ j u, (ints xs)[j]? = some u → W.cell? ⟨vb, vo + j, none⟩ = some u) ∧ ∀ j, j < m → W.cell? ⟨vb, vo + j, none⟩ = some (.int .i64 (xs.getD j 0))) := by
          obtain ⟨a2, c2, e2, h2⟩ := HXS.out.1
          cases e2
          obtain ⟨vb, vo, rfl, h3, h4⟩ := h2 (ints_ne (by have := HML.out; omega))
          have h6 : ∀ W, Below w.heap.size w W → ∀ j u, (ints xs)[j]? = some u → W.cell? ⟨vb, vo + j, none⟩ = some u := fun W hW j u hj => by
            rw [(hW.mono HR.out.1).cell (p := ⟨vb, vo + j, none⟩) h3]; exact h4 j u hj
          refine ⟨vb, vo, rfl, Lib.hid fun W hW => ⟨h3, h6 W hW, fun j hj => ?_⟩⟩
          have h5 := h6 W hW j _ (ints_at' xs j (by have := HML.out; omega))
          rw [h5, ← List.getD_eq_getElem?_getD]
        obtain ⟨f0, hf0⟩ : ∃ f0 : Nat, xs.getD k 0 = (f0 : Int) := ⟨(xs.getD k 0).toNat, by have := inAll_at HE.out.2 (k := k) (by have := HML.out; omega); omega⟩
        obtain ⟨f1, hf1⟩ : ∃ f1 : Nat, xs.getD (k + 1) 0 = (f1 : Int) := ⟨(xs.getD (k + 1) 0).toNat, by have := inAll_at HE.out.2 (k := k + 1) (by have := HML.out; omega); omega⟩
        obtain ⟨f2, hf2⟩ : ∃ f2 : Nat, xs.getD (k + 2) 0 = (f2 : Int) := ⟨(xs.getD (k + 2) 0).toNat, by have := inAll_at HE.out.2 (k := k + 2) (by have := HML.out; omega); omega⟩
        have hc0 := (hvc.out w2 HB2.out).2.2 k (by omega)
        have hc1 := (hvc.out w2 HB2.out).2.2 (k + 1) (by omega)
        have hc2 := (hvc.out w2 HB2.out).2.2 (k + 2) (by omega)
        rw [hf0] at hc0
        rw [hf1] at hc1
        rw [hf2] at hc2
        have hf2n : f2 < n := by have := inAll_at HE.out.2 (k := k + 2) (by have := HML.out; omega); have := HN.out; omega
        have hf01 : f0 < f1 ∧ f1 < f2 := by
          have h1 := holds_up HH.out (k := k) (by have := HML.out; omega)
          have h2 : xs.getD (k + 1) 0 < xs.getD (k + 2) 0 := holds_up HH.out (k := k + 1) (by have := HML.out; omega)
          omega
        have HF := Lib.hid (And.intro hf0 (And.intro hf1 (And.intro hf2 hf01)))
        have e1 : IntKind.i64.wrap ((k : Int) + 1 - 1) = (k : Int) := by rw [IntWalk.i64_in _ (by omega)]; omega
        have e2 : IntKind.i64.wrap ((k : Int) + 1 + 1) = ((k + 2 : Nat) : Int) := by rw [IntWalk.i64_in _ (by omega)]; omega
        have e3 : IntKind.i64.wrap ((k : Int) + 1 + 2) = ((k + 3 : Nat) : Int) := by rw [IntWalk.i64_in _ (by omega)]; omega
        have k1m : k + 1 < m := by omega
        have k0m : k < m := by omega
        clear hii hw2 hf0 hf1 hf2 hf01
        go_wp2_with fail
        go_quiet (fail)
        have HB3 : Hid (Below w.heap.size w (w2.drewN nq) ∧ WkN b n ac (some ⟨ab, ao, none⟩) (suTo p p.n 0) (w2.drewN nq)) := Lib.hid ⟨below_drewN HB2.out nq, HW.out.grow (below_drewN (Below.refl w2.heap.size w2) nq)⟩
        have hc1' : (w2.drewN nq).cell? ⟨vb, vo + (k + 1), none⟩ = some (.int .i64 (f1 : Int)) := hc1
        clear hc0 hc1 hc2
        generalize w2.drewN nq = w3 at HB3 hc1' ⊢
        go_wp2_with fail
        refine (needed_any (wo := (f1 : Int)) n40 hf2n HB3.out.2).mono ?_
        rintro e w4 ⟨qm, N, rfl, hqm, hMO, hN, hb4⟩
        have HB4 : Hid (Below w.heap.size w w4 ∧ WkN b n ac (some ⟨ab, ao, none⟩) (suTo p p.n 0) w4) := Lib.hid ⟨HB3.out.1.trans (hb4.mono HB3.out.1.size), HB3.out.2.grow hb4⟩
        have HNN := Lib.hid (And.intro hN hMO)
        have hlk := hMO.look (c := f0) (WalkArith.wf_i64 ⟨by omega, by have := HF.out; omega⟩)
        rw [needF_nat] at hlk
        clear hN hMO hb4 hqm hc1'
        cases hN0 : N f0 with
        | none =>
          rw [hN0] at hlk
          have hlk : (Instr.lookup 107 (.map (some qm)) (.int .i64 f0) true).run Try.prog w4 = .ok (.tuple #[.int .i64 0, .bool false]) w4 := hlk
          have HN0 := Lib.hid hN0
          clear hN0
          go_wp2
          go_ret2
          refine ⟨HB4.out.1, _, _, [], rfl, ownsRow_zero _ _ _ _, .inr (.inr (.inr (.inr ⟨HE.out.1, HE.out.2, HH.out, HI.out, .inl ⟨rfl, rfl, fun L hL => ?_⟩⟩)))⟩
          have h1 := HF.out
          simp only [Int.toNat_natCast, Nat.add_sub_cancel] at hL
          rw [h1.1, h1.2.1, show k + 1 + 1 = k + 2 from rfl, h1.2.2.1] at hL
          simp only [Int.toNat_natCast] at hL
          obtain ⟨m1, h2, -⟩ := ((HNN.out.1 f0).congr (S' := p.sure) (fun i j hij hj => suTo_sure p hij (by rw [← HN.out]; exact hj))).least L (by rw [HN.out]; exact hL)
          rw [HN0.out] at h2
          cases h2
        | some m0 =>
          rw [hN0] at hlk
          have hlk : (Instr.lookup 107 (.map (some qm)) (.int .i64 f0) true).run Try.prog w4 = .ok (.tuple #[.int .i64 m0, .bool true]) w4 := hlk
          have HN0 := Lib.hid hN0
          clear hN0
          have HCL := Lib.hid (clone_ints (B := w4.heap.size) (w := w4) (b := vb) (off := vo) (n := k) (c := vc) (xs := xs) (by have := HML.out; omega) (by omega) (hvc.out w4 HB4.out.1).2.1 (Nat.le_refl _))
          have hkv : k ≤ vc := by omega
          go_wp2_with fail
          refine HCL.out.mono ?_
          rintro e w5 ⟨vC, rfl, hown5, -, hb5⟩
          have HB5 : Hid (Below w.heap.size w w5 ∧ WkN b n ac (some ⟨ab, ao, none⟩) (suTo p p.n 0) w5) := Lib.hid ⟨HB4.out.1.trans (hb5.mono HB4.out.1.size), HB4.out.2.grow hb5⟩
          have HO5 := Lib.hid hown5
          have HCH := Lib.hid (chain_any (fm := f0) n40 hf2n HB5.out.2 HNN.out.1 (HNN.out.2.same (hb5.block _ HNN.out.2.lt)) HN0.out)
          have HSZ : Hid (w.heap.size ≤ w4.heap.size ∧ w4.heap.size ≤ w5.heap.size) := Lib.hid ⟨HB4.out.1.size, hb5.size⟩
          clear hown5 hb5 HCL
          go_wp2_with fail
          refine HCH.out.mono ?_
          rintro e w6 ⟨vL, L, rfl, hown6, hbest, hlen, hb6⟩
          have HB6 : Hid (Below w.heap.size w w6) := Lib.hid (HB5.out.1.trans (hb6.mono HB5.out.1.size))
          have HO6 := Lib.hid (owns_below HO5.out hb6)
          have HBL := Lib.hid (And.intro hbest hlen)
          have hpos := hbest.ch.pos
          obtain ⟨g, cap, rfl, hgc⟩ : ∃ g cap, vL = .slice (some ⟨g, 0, none⟩) L.length cap ∧ ∀ j u, (ints (L.map Int.ofNat))[j]? = some u → w6.cell? ((⟨g, 0, none⟩ : Addr).add j) = some u := by
            rcases hown6.2 with ⟨-, h0⟩ | ⟨g, cap, cur, rfl, -⟩
            · omega
            · exact ⟨g, cap, rfl, fun j u hj => hown6.cells (g := g) rfl j u hj⟩
          have HGC := Lib.hid hgc
          have HS6 : Hid (w4.heap.size ≤ w6.heap.size) := Lib.hid (by have := HSZ.out; have := hb6.size; omega)
          obtain ⟨i0, hi, hz0, hz1, hz2⟩ := info_parts Try.infoInt
          have HIN := Lib.hid (And.intro hi (And.intro hz0 (And.intro hz1 hz2)))
          have hk3m : k + 3 ≤ m := by omega
          clear hi hz0 hz1 hz2 hgc hown6 hbest hlen hb6 hpos HCH
          go_upto_region 15 with (at_builtin; refine wpList_append_own _ rfl _ _ 25 rfl w4.heap.size 3 i0 (.int .i64 0) 1 8 Try.underlying25 HIN.out.1 HIN.out.2.1 HIN.out.2.2.1 HIN.out.2.2.2 rfl (by decide) _ _ _ rfl HO6.out ⟨g, 0, none⟩ L.length cap (ints (L.map Int.ofNat)) rfl (by unfold ints; simp) HGC.out (ints_one _) (by have := HBL.out.2; unfold maxLen; omega) (by have := HBL.out.2; omega) HS6.out ?_; intro v7 w7 hown7 hgr7 _; have HO7 := Lib.hid hown7; have HB7 : Hid (Below w.heap.size w w7 ∧ w4.heap.size ≤ w7.heap.size) := Lib.hid ⟨HB6.out.grown hgr7 HB6.out.size (fun kk e => by have h1 := (HO6.out.lt kk e).1; have := HSZ.out; omega), by have h1 := hgr7.size; have := HS6.out; omega⟩; clear hown7 hgr7)
          by_cases hcv : vc = k + 3
          · have hmz : m - (k + 3) = 0 := by omega
            have HDC : Hid (∀ j u, (ints (xs.drop (k + 3)))[j]? = some u → w7.cell? ((⟨vb, vo, none⟩ : Addr).add j) = some u) := Lib.hid (fun j u hj => by
              rw [List.drop_eq_nil_of_le (by have := HML.out; omega)] at hj
              simp [ints] at hj)
            subst hcv
            go_wp2_with (at_builtin; refine wpList_append_own _ rfl _ _ 25 rfl w4.heap.size 3 i0 (.int .i64 0) 1 8 Try.underlying25 HIN.out.1 HIN.out.2.1 HIN.out.2.2.1 HIN.out.2.2.2 rfl (by decide) _ _ _ rfl HO7.out ⟨vb, vo, none⟩ (m - (k + 3)) (k + 3 - (k + 3)) (ints (xs.drop (k + 3))) rfl (by unfold ints; have := HML.out; simp; omega) HDC.out (ints_one _) (by have := HBL.out.2; unfold maxLen; omega) (by have := HBL.out.2; omega) HB7.out.2 ?_; intro v8 w8 hown8 hgr8 _; have HO8 := Lib.hid hown8; have HB8 : Hid (Below w.heap.size w w8) := Lib.hid (HB7.out.1.grown hgr8 HB7.out.1.size (fun kk e => by have h1 := (HO7.out.lt kk e).1; have := HSZ.out; omega)); clear hown8 hgr8)
            go_ret2
            refine ⟨HB8.out, v8, 0, xs.take k ++ L.map Int.ofNat ++ xs.drop (k + 3), rfl, ?_, .inr (.inr (.inr (.inr ⟨HE.out.1, HE.out.2, HH.out, HI.out, .inr ⟨rfl, L, ?_, ?_⟩⟩)))⟩
            · have h1 := owns_mono (base' := w.heap.size) HO8.out HSZ.out.1
              have e5 : ints (xs.take k) ++ ints (L.map Int.ofNat) ++ ints (xs.drop (k + 3)) = ints (xs.take k ++ L.map Int.ofNat ++ xs.drop (k + 3)) := by simp [ints]
              rw [e5] at h1
              have e6 : (xs.take k ++ L.map Int.ofNat ++ xs.drop (k + 3)).length = k + L.length + (m - (k + 3)) := by have := HML.out; simp; omega
              rw [e6]; exact h1
            · have h1 := HF.out
              have h2 := HBL.out.1.congr (S' := p.sure) (fun i j hij hj => suTo_sure p hij (by rw [← HN.out]; exact hj))
              simp only [Int.toNat_natCast, Nat.add_sub_cancel]
              rw [h1.1, h1.2.1, show k + 1 + 1 = k + 2 from rfl, h1.2.2.1, ← HN.out]
              simp only [Int.toNat_natCast]
              exact h2
            · simp
          · have HDC : Hid (∀ j u, (ints (xs.drop (k + 3)))[j]? = some u → w7.cell? ((⟨vb, vo + (k + 3), none⟩ : Addr).add j) = some u) := Lib.hid (fun j u hj => by
              rw [Addr.add_lit, Nat.add_assoc]
              refine (hvc.out w7 HB7.out.1).2.1 (k + 3 + j) u ?_
              unfold ints at hj ⊢
              rw [List.map_drop, List.getElem?_drop] at hj
              exact hj)
            go_wp2_with (at_builtin; refine wpList_append_own _ rfl _ _ 25 rfl w4.heap.size 3 i0 (.int .i64 0) 1 8 Try.underlying25 HIN.out.1 HIN.out.2.1 HIN.out.2.2.1 HIN.out.2.2.2 rfl (by decide) _ _ _ rfl HO7.out ⟨vb, vo + (k + 3), none⟩ (m - (k + 3)) (vc - (k + 3)) (ints (xs.drop (k + 3))) rfl (by unfold ints; have := HML.out; simp; omega) HDC.out (ints_one _) (by have := HBL.out.2; unfold maxLen; omega) (by have := HBL.out.2; omega) HB7.out.2 ?_; intro v8 w8 hown8 hgr8 _; have HO8 := Lib.hid hown8; have HB8 : Hid (Below w.heap.size w w8) := Lib.hid (HB7.out.1.grown hgr8 HB7.out.1.size (fun kk e => by have h1 := (HO7.out.lt kk e).1; have := HSZ.out; omega)); clear hown8 hgr8)
            go_ret2
            refine ⟨HB8.out, v8, 0, xs.take k ++ L.map Int.ofNat ++ xs.drop (k + 3), rfl, ?_, .inr (.inr (.inr (.inr ⟨HE.out.1, HE.out.2, HH.out, HI.out, .inr ⟨rfl, L, ?_, ?_⟩⟩)))⟩
            · have h1 := owns_mono (base' := w.heap.size) HO8.out HSZ.out.1
              have e5 : ints (xs.take k) ++ ints (L.map Int.ofNat) ++ ints (xs.drop (k + 3)) = ints (xs.take k ++ L.map Int.ofNat ++ xs.drop (k + 3)) := by simp [ints]
              rw [e5] at h1
              have e6 : (xs.take k ++ L.map Int.ofNat ++ xs.drop (k + 3)).length = k + L.length + (m - (k + 3)) := by have := HML.out; simp; omega
              rw [e6]; exact h1
            · have h1 := HF.out
              have h2 := HBL.out.1.congr (S' := p.sure) (fun i j hij hj => suTo_sure p hij (by rw [← HN.out]; exact hj))
              simp only [Int.toNat_natCast, Nat.add_sub_cancel]
              rw [h1.1, h1.2.1, show k + 1 + 1 = k + 2 from rfl, h1.2.2.1, ← HN.out]
              simp only [Int.toNat_natCast]
              exact h2
            · simp
end Go.Proofs.Ytohjinbgbfggcaa
