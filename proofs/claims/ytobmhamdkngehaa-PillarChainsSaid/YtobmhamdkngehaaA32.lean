/-
  Parts of the proof, in the order in which they build: RsD.
-/
import Derived.Test.YtobmhamdkngehaaA22
import Derived.Test.YtobmhamdkngehaaA23
import Derived.Test.YtobmhamdkngehaaA17
set_option linter.unusedVariables false
set_option linter.unusedSimpArgs false
namespace Go.Proofs.Ytobmhamdkngehaa
open Go.RowKit Go.Shelf
open Lim

/-- what the reference's Fewest answers -/
def rFewAns (w : World) (p : Pf) (e : Ending) (w' : World) : Prop :=
  Below w.heap.size w w' ∧ ((p.err ≠ 0 ∧ e = .returned (.tuple #[.slice none 0 0, .int .i64 p.err])) ∨
    (p.err = 0 ∧ ∃ v L, e = .returned (.tuple #[v, .int .i64 0]) ∧ RS w'.heap.size w' v L.length (ints (L.map Int.ofNat)) ∧ IsBest p.n p.sure (-1) (p.n - 1) 0 L))
theorem rsure_next (p : Pf) (i : Nat) : p.sure i (i + 1) = true := by
  unfold Pf.sure Pf.sees
  rw [open_iff]
  intro k h1 h2
  omega
theorem rch_all (p : Pf) : ∀ t, t < p.n → ∃ L, Ch p.n p.sure (-1) t 0 L
  | 0, _ => ⟨[0], .one⟩
  | t + 1, h => by
    obtain ⟨L, hL⟩ := rch_all p t (by omega)
    exact ⟨L ++ [t + 1], hL.snoc (Nat.lt_succ_self t) h (rsure_next p t) (by omega)⟩
set_option maxRecDepth 20000 in
set_option maxHeartbeats 4000000 in
theorem rFewest_any {B : Nat} {p : Pf} {av gv : Value} {w : World} (hB : B ≤ w.heap.size) (ha : RS B w av p.ats.length (ints p.ats)) (hg : RS B w gv p.gr.length (spans p.gr)) :
    Calls Try.prog 53 #[.agg #[av, gv, .int .i64 p.tall, .int .i64 p.lo, .int .i64 p.hi]] w (rFewAns w p) := by
  have h1g : gv.oneCell' = true := by obtain ⟨a, c, rfl, -⟩ := hg; rfl
  have HRG := Lib.hid (And.intro hB (And.intro ha hg))
  obtain ⟨a, ac, rfl, hac⟩ := ha
  obtain ⟨n, hn⟩ : ∃ x, x = p.ats.length := ⟨_, rfl⟩
  have HN : Hid (n = p.n) := Lib.hid hn
  obtain ⟨tl, htl⟩ : ∃ x, x = p.tall := ⟨_, rfl⟩
  obtain ⟨lo, hlo⟩ : ∃ x, x = p.lo := ⟨_, rfl⟩
  obtain ⟨hi, hhi⟩ : ∃ x, x = p.hi := ⟨_, rfl⟩
  have HT := Lib.hid (And.intro htl (And.intro hlo hhi))
  have HCK : Hid (∀ W, Below w.heap.size w W → Calls Try.prog 47 #[.agg #[.slice a n ac, gv, .int .i64 tl, .int .i64 lo, .int .i64 hi]] W fun e w' => e = .returned (.int .i64 p.err) ∧ Below W.heap.size W w') := Lib.hid fun W hW => by
    rw [hn, htl, hlo, hhi]
    exact rCheck_any (Nat.le_trans HRG.out.1 hW.size) (HRG.out.2.1.below (hW.mono HRG.out.1)) (HRG.out.2.2.below (hW.mono HRG.out.1))
  have HSR : Hid (∀ (hp : p.Ok) (i j : Nat) W, Below w.heap.size w W → i < p.n → j < p.n → Calls Try.prog 92 #[.agg #[.slice a n ac, gv, .int .i64 tl, .int .i64 lo, .int .i64 hi], .int .i64 (i : Int), .int .i64 (j : Int)] W fun e w' => e = .returned (.bool (p.sure i j)) ∧ Below W.heap.size W w') := Lib.hid fun hp i j W hW h1 h2 => by
    rw [hn, htl, hlo, hhi]
    exact rsure_any hp h1 h2 (Nat.le_trans HRG.out.1 hW.size) (HRG.out.2.1.below (hW.mono HRG.out.1)) (HRG.out.2.2.below (hW.mono HRG.out.1))
  obtain ⟨nI, hnI⟩ : ∃ x : Int, x = (n : Int) - 1 := ⟨_, rfl⟩
  have HNI := Lib.hid hnI
  clear hnI
  have HBS : Hid (∀ (hp : p.Ok) W, Below w.heap.size w W → Calls Try.prog 67 #[.agg #[.slice a n ac, gv, .int .i64 tl, .int .i64 lo, .int .i64 hi], .int .i64 0, .int .i64 ((p.n - 1 : Nat) : Int), .int .i64 (-1)] W fun e w' => ∃ v L, e = .returned v ∧ RS w'.heap.size w' v L.length (ints (L.map Int.ofNat)) ∧ (L ≠ [] → IsBest p.n p.sure (-1) (p.n - 1) 0 L) ∧ (L = [] → ∀ M, ¬ Ch p.n p.sure (-1) (p.n - 1) 0 M) ∧ Below W.heap.size W w') := Lib.hid fun hp W hW => by
    rw [hn, htl, hlo, hhi]
    exact rbest_any (sf := 0) (st := p.n - 1) (wt := -1) hp (by have := hp.n2; omega) (by have := hp.n2; omega) (by omega) (Nat.le_trans HRG.out.1 hW.size) (HRG.out.2.1.below (hW.mono HRG.out.1)) (HRG.out.2.2.below (hW.mono HRG.out.1))
  rw [← hn, ← htl, ← hlo, ← hhi]
  have HMB : Hid (Below w.heap.size w (w.alloc (.cells #[.slice a n ac, gv, .int .i64 tl, .int .i64 lo, .int .i64 hi] 35))) := Lib.hid ((Below.refl _ w).alloc (Nat.le_refl _) _)
  have HM : Hid ((fun W => (W.cell? ⟨w.heap.size, 0, none⟩ = some (.slice a n ac) ∧ W.cell? ⟨w.heap.size, 1, none⟩ = some gv ∧ W.cell? ⟨w.heap.size, 2, none⟩ = some (.int .i64 tl) ∧ W.cell? ⟨w.heap.size, 3, none⟩ = some (.int .i64 lo) ∧ W.cell? ⟨w.heap.size, 4, none⟩ = some (.int .i64 hi))) (w.alloc (.cells #[.slice a n ac, gv, .int .i64 tl, .int .i64 lo, .int .i64 hi] 35))) := Lib.hid ⟨by simp [go_sem], by simp [go_sem], by simp [go_sem], by simp [go_sem], by simp [go_sem]⟩
  clear hac hn htl hlo hhi hB hg
  go_enter Try.func53, Try.ntmps53
  go_upto_region 1 with (fail)
  obtain ⟨q, hq⟩ : ∃ q, q = w.heap.size := ⟨_, rfl⟩
  have HQ := Lib.hid hq
  rw [← hq] at HM
  simp only [← hq]
  clear hq
  generalize w.alloc (.cells #[.slice a n ac, gv, .int .i64 tl, .int .i64 lo, .int .i64 hi] 35) = w1 at HM HMB ⊢
  obtain ⟨k0, k1, k2, k3, k4⟩ := HM.out
  clear HM
  go_wp2_with fail
  refine (HCK.out _ HMB.out).mono ?_
  rintro e w2 ⟨rfl, hb2⟩
  replace k0 := hb2.on k0
  replace k1 := hb2.on k1
  replace k2 := hb2.on k2
  replace k3 := hb2.on k3
  replace k4 := hb2.on k4
  have HB2 : Hid (Below w.heap.size w w2) := Lib.hid (HMB.out.trans (hb2.mono HMB.out.size))
  clear hb2 HMB HCK
  obtain ⟨er, her⟩ : ∃ x, x = p.err := ⟨_, rfl⟩
  rw [← her]
  have HER := Lib.hid her
  by_cases he : er = 0
  · have d1 : (er != 0) = false := by rw [he]; rfl
    have HOK : Hid (p.err = 0 ∧ p.Ok) := Lib.hid ⟨by rw [← her, he], err_ok (by rw [← her, he])⟩
    have HN40 : Hid (2 ≤ n ∧ n ≤ 40) := Lib.hid ⟨by rw [HN.out]; exact HOK.out.2.n2, by rw [HN.out]; exact HOK.out.2.n40⟩
    clear he her
    have HBE : Hid (∀ W, Below w.heap.size w W → Calls Try.prog 67 #[.agg #[.slice a n ac, gv, .int .i64 tl, .int .i64 lo, .int .i64 hi], .int .i64 0, .int .i64 nI, .int .i64 (-1)] W fun e w' => ∃ v L, e = .returned v ∧ RS w'.heap.size w' v L.length (ints (L.map Int.ofNat)) ∧ (L ≠ [] → IsBest p.n p.sure (-1) (p.n - 1) 0 L) ∧ (L = [] → ∀ M, ¬ Ch p.n p.sure (-1) (p.n - 1) 0 M) ∧ Below W.heap.size W w') := Lib.hid fun W hW => by
      have h := HBS.out HOK.out.2 W hW
      rw [show ((p.n - 1 : Nat) : Int) = nI by have := HNI.out; have := HN.out; have := HN40.out; omega] at h
      exact h
    have wn : IntKind.i64.wrap ((n : Int) - 1) = nI := by rw [HNI.out]; exact IntWalk.i64_in _ (by have := HN40.out; omega)
    go_wp2_with fail
    refine (HBE.out _ HB2.out).mono ?_
    rintro e w3 ⟨v, L, rfl, hrs, h1, h2, hb3⟩
    have HB3 : Hid (Below w.heap.size w w3) := Lib.hid (HB2.out.trans (hb3.mono HB2.out.size))
    have hne : L ≠ [] := fun e => by
      obtain ⟨M, hM⟩ := rch_all p (p.n - 1) (by have := HOK.out.2.n2; omega)
      exact h2 e M hM
    have HA : Hid (RS w3.heap.size w3 v L.length (ints (L.map Int.ofNat)) ∧ IsBest p.n p.sure (-1) (p.n - 1) 0 L) := Lib.hid ⟨hrs, h1 hne⟩
    clear hb3 hrs h1 h2 hne k0 k1 k2 k3 k4 HB2 HBE
    go_wp2
    go_ret2
    exact ⟨HB3.out, .inr ⟨HOK.out.1, v, L, rfl, HA.out.1, HA.out.2⟩⟩
  · have d1 : (er != 0) = true := by rw [bne_iff_ne]; exact he
    have HNE : Hid (p.err ≠ 0 ∧ p.err = er) := Lib.hid ⟨by rw [← her]; exact he, her.symm⟩
    clear k0 k1 k2 k3 k4 her he
    have HB := HB2
    go_wp2
    go_ret2
    exact ⟨HB.out, .inl ⟨HNE.out.1, by rw [HNE.out.2]; rfl⟩⟩
set_option maxRecDepth 20000 in
set_option maxHeartbeats 4000000 in
theorem rProves_any {B : Nat} {p : Pf} {av gv : Value} {v : Value} {l : List Int} {w : World} (hB : B ≤ w.heap.size) (ha : RS B w av p.ats.length (ints p.ats)) (hg : RS B w gv p.gr.length (spans p.gr)) (hv : RS B w v l.length (ints l)) (hm : l.length ≤ 1000) :
    Calls Try.prog 55 #[.agg #[av, gv, .int .i64 p.tall, .int .i64 p.lo, .int .i64 p.hi], v] w (ProvAns w p l) := by
  have h1g : gv.oneCell' = true := by obtain ⟨a, c, rfl, -⟩ := hg; rfl
  have HRG := Lib.hid (And.intro hB (And.intro ha hg))
  obtain ⟨a, ac, rfl, hac⟩ := ha
  obtain ⟨n, hn⟩ : ∃ x, x = p.ats.length := ⟨_, rfl⟩
  have HN : Hid (n = p.n) := Lib.hid hn
  obtain ⟨tl, htl⟩ : ∃ x, x = p.tall := ⟨_, rfl⟩
  obtain ⟨lo, hlo⟩ : ∃ x, x = p.lo := ⟨_, rfl⟩
  obtain ⟨hi, hhi⟩ : ∃ x, x = p.hi := ⟨_, rfl⟩
  have HT := Lib.hid (And.intro htl (And.intro hlo hhi))
  have HCK : Hid (∀ W, Below w.heap.size w W → Calls Try.prog 47 #[.agg #[.slice a n ac, gv, .int .i64 tl, .int .i64 lo, .int .i64 hi]] W fun e w' => e = .returned (.int .i64 p.err) ∧ Below W.heap.size W w') := Lib.hid fun W hW => by
    rw [hn, htl, hlo, hhi]
    exact rCheck_any (Nat.le_trans HRG.out.1 hW.size) (HRG.out.2.1.below (hW.mono HRG.out.1)) (HRG.out.2.2.below (hW.mono HRG.out.1))
  have HSR : Hid (∀ (hp : p.Ok) (i j : Nat) W, Below w.heap.size w W → i < p.n → j < p.n → Calls Try.prog 92 #[.agg #[.slice a n ac, gv, .int .i64 tl, .int .i64 lo, .int .i64 hi], .int .i64 (i : Int), .int .i64 (j : Int)] W fun e w' => e = .returned (.bool (p.sure i j)) ∧ Below W.heap.size W w') := Lib.hid fun hp i j W hW h1 h2 => by
    rw [hn, htl, hlo, hhi]
    exact rsure_any hp h1 h2 (Nat.le_trans HRG.out.1 hW.size) (HRG.out.2.1.below (hW.mono HRG.out.1)) (HRG.out.2.2.below (hW.mono HRG.out.1))
  have HV := Lib.hid hv
  obtain ⟨va, vc, rfl, -⟩ := hv
  obtain ⟨m, hmm⟩ : ∃ x, x = l.length := ⟨_, rfl⟩
  have HM : Hid (m = l.length) := Lib.hid hmm
  rw [← hmm]
  rw [← hn, ← htl, ← hlo, ← hhi]
  have HMB : Hid (Below w.heap.size w (w.alloc (.cells #[.slice a n ac, gv, .int .i64 tl, .int .i64 lo, .int .i64 hi] 35))) := Lib.hid ((Below.refl _ w).alloc (Nat.le_refl _) _)
  have HM : Hid ((fun W => (W.cell? ⟨w.heap.size, 0, none⟩ = some (.slice a n ac) ∧ W.cell? ⟨w.heap.size, 1, none⟩ = some gv ∧ W.cell? ⟨w.heap.size, 2, none⟩ = some (.int .i64 tl) ∧ W.cell? ⟨w.heap.size, 3, none⟩ = some (.int .i64 lo) ∧ W.cell? ⟨w.heap.size, 4, none⟩ = some (.int .i64 hi))) (w.alloc (.cells #[.slice a n ac, gv, .int .i64 tl, .int .i64 lo, .int .i64 hi] 35))) := Lib.hid ⟨by simp [go_sem], by simp [go_sem], by simp [go_sem], by simp [go_sem], by simp [go_sem]⟩
  clear hac hn htl hlo hhi hB hg hmm hm
  go_enter Try.func55, Try.ntmps55
  go_upto_region 1 with (fail)
  obtain ⟨q, hq⟩ : ∃ q, q = w.heap.size := ⟨_, rfl⟩
  have HQ := Lib.hid hq
  rw [← hq] at HM
  simp only [← hq]
  clear hq
  generalize w.alloc (.cells #[.slice a n ac, gv, .int .i64 tl, .int .i64 lo, .int .i64 hi] 35) = w1 at HM HMB ⊢
  obtain ⟨k0, k1, k2, k3, k4⟩ := HM.out
  clear HM
  go_wp2_with fail
  refine (HCK.out _ HMB.out).mono ?_
  rintro e w2 ⟨rfl, hb2⟩
  replace k0 := hb2.on k0
  replace k1 := hb2.on k1
  replace k2 := hb2.on k2
  replace k3 := hb2.on k3
  replace k4 := hb2.on k4
  have HB2 : Hid (Below w.heap.size w w2) := Lib.hid (HMB.out.trans (hb2.mono HMB.out.size))
  clear hb2 HMB HCK
  obtain ⟨er, her⟩ : ∃ x, x = p.err := ⟨_, rfl⟩
  rw [← her]
  have HER := Lib.hid her
  by_cases he : er = 0
  · have d1 : (er != 0) = false := by rw [he]; rfl
    have HOK : Hid (p.err = 0 ∧ p.Ok) := Lib.hid ⟨by rw [← her, he], err_ok (by rw [← her, he])⟩
    have HN40 : Hid (2 ≤ n ∧ n ≤ 40) := Lib.hid ⟨by rw [HN.out]; exact HOK.out.2.n2, by rw [HN.out]; exact HOK.out.2.n40⟩
    clear he her
    by_cases hmn : m = n
    · obtain rfl : n = m := hmn.symm
      have d2 : ((n : Int) != (n : Int)) = false := by simp
      have HLN : Hid (l.length = p.n) := Lib.hid (by rw [← HM.out, HN.out])
      have n40 : n ≤ 40 := HN40.out.2
      obtain ⟨v0, vc', hvv, hvc⟩ := HV.out
      cases hvv
      obtain ⟨vb, vo, rfl, hvb, hvs⟩ := hvc (ints_ne (by have := HM.out; have := HN40.out; omega))
      have HX : Hid (∀ W, Below w.heap.size w W → ∀ k, k < n → W.cell? ⟨vb, vo + k, none⟩ = some (.int .i64 (l.getD k 0))) := Lib.hid (fun W hW k hk => by
        have h1 := hvs k _ (ints_at' l k (by have := HM.out; omega))
        rw [← List.getD_eq_getElem?_getD] at h1
        rw [hW.cell (p := ⟨vb, vo + k, none⟩) (Nat.lt_of_lt_of_le hvb HRG.out.1), h1])
      clear hvb hvs hvc
      go_wp2_with fail
      go_loopw [8] (fun iv W => ∃ k : Nat, k ≤ n ∧ iv = .int .i64 (k : Int) ∧ Hid (Below w2.heap.size w2 W) ∧ Hid (∀ x, x < k → inR (l.getD x 0) 0 40 = true)) (fun iv _ => n - (intOf iv).toNat)
      case atStart => exact ⟨0, Nat.zero_le _, rfl, Lib.hid (Below.refl _ _), Lib.hid (by intro x hx; omega)⟩
      case round =>
        obtain ⟨k, hk, rfl, hbr, hin⟩ := hrel
        have HBR : Hid (Below w.heap.size w wr) := Lib.hid (HB2.out.trans (hbr.out.mono HB2.out.size))
        by_cases hlt : k < n
        · obtain ⟨x, hx⟩ : ∃ x, x = l.getD k 0 := ⟨_, rfl⟩
          have kx : wr.cell? ⟨vb, vo + k, none⟩ = some (.int .i64 x) := by rw [hx]; exact HX.out wr HBR.out k hlt
          have HXX := Lib.hid hx
          have k64 : k < 100 := by omega
          clear hx k0 k1 k2 k3 k4
          go_wp2_with fail
          refine (outside_any _ _ _ _).mono ?_
          rintro e w6 ⟨rfl, rfl⟩
          obtain ⟨z, hz⟩ : ∃ z, inR x 0 40 = z := ⟨_, rfl⟩
          rw [hz]
          have HZ : Hid (inR (l.getD k 0) 0 40 = z) := Lib.hid (by rw [← HXX.out]; exact hz)
          clear hz kx
          cases z with
          | true =>
            go_wp2
            go_roundw
            case rel =>
              refine ⟨k + 1, by omega, by go_num, hbr, Lib.hid (fun x hx => ?_)⟩
              by_cases e : x = k
              · rw [e]; exact HZ.out
              · exact hin.out x (by omega)
            case measure => simp [intOf]; omega
          | false =>
            have HF : Hid (inLev l = false) := Lib.hid (by
              rw [Bool.eq_false_iff]
              intro h
              have hkl : k < l.length := by have := HM.out; omega
              have := (List.all_eq_true.1 h) l[k] (List.getElem_mem hkl)
              have h2 := HZ.out
              rw [List.getD_eq_getElem?_getD, List.getElem?_eq_getElem hkl] at h2
              rw [show (some l[k]).getD (0 : Int) = l[k] from rfl, this] at h2
              cases h2)
            go_wp2
            go_ret2
            exact ⟨HBR.out, 0, 4, rfl, .inr (.inr (.inl ⟨HOK.out.1, HLN.out, HF.out, rfl, rfl⟩))⟩
        · have hkm : n = k := by omega
          subst hkm
          have HLV : Hid (inLev l = true) := Lib.hid (by
            unfold inLev
            rw [List.all_eq_true]
            intro x hx
            obtain ⟨k, hk, rfl⟩ := List.mem_iff_getElem.1 hx
            have := hin.out k (by have := HM.out; omega)
            rwa [List.getD_eq_getElem?_getD, List.getElem?_eq_getElem hk] at this)
          have HRA : Hid (∀ x, x < n → 0 ≤ l.getD x 0 ∧ l.getD x 0 ≤ 40) := Lib.hid (fun x hx => inR_iff.1 (hin.out x hx))
          replace k0 := hbr.out.on k0
          replace k1 := hbr.out.on k1
          replace k2 := hbr.out.on k2
          replace k3 := hbr.out.on k3
          replace k4 := hbr.out.on k4
          obtain ⟨wq, rfl⟩ : ∃ x, x = wr := ⟨_, rfl⟩
          clear hin
          go_wp2_with fail
          go_loopw [9] (fun jv W => ∃ j : Nat, 1 ≤ j ∧ j ≤ n ∧ jv = .int .i64 (j : Int) ∧ Hid (Below wq.heap.size wq W) ∧ Hid (∀ x, x < j → ∀ y, y < x → p.sure y x = true → l.getD x 0 ≤ l.getD y 0 + 1)) (fun jv _ => n - (intOf jv).toNat)
          case atStart => exact ⟨1, Nat.le_refl _, by have := HN40.out; omega, rfl, Lib.hid (Below.refl _ _), Lib.hid (by intro x hx y hy; omega)⟩
          case round =>
            obtain ⟨j, hj1, hj2, rfl, hbj, hpj⟩ := hrel
            obtain ⟨wi, rfl⟩ : ∃ x, x = wr := ⟨_, rfl⟩
            have HBI : Hid (Below w.heap.size w wi) := Lib.hid (HBR.out.trans (hbj.out.mono HBR.out.size))
            have j0 := hbj.out.on k0
            have j1 := hbj.out.on k1
            have j2 := hbj.out.on k2
            have j3 := hbj.out.on k3
            have j4 := hbj.out.on k4
            have j64 : j < 100 := by omega
            clear k0 k1 k2 k3 k4
            by_cases hjn : j < n
            · go_wp2_with fail
              go_loopw [10] (fun iv W => ∃ i : Nat, i ≤ j ∧ iv = .int .i64 (i : Int) ∧ Hid (Below wi.heap.size wi W) ∧ Hid (∀ y, y < i → p.sure y j = true → l.getD j 0 ≤ l.getD y 0 + 1)) (fun iv _ => j - (intOf iv).toNat)
              case atStart => exact ⟨0, Nat.zero_le _, rfl, Lib.hid (Below.refl _ _), Lib.hid (by intro y hy; omega)⟩
              case round =>
                obtain ⟨i, hi2, rfl, hbi, hpi⟩ := hrel
                have HBS : Hid (Below w.heap.size w wr) := Lib.hid (HBI.out.trans (hbi.out.mono HBI.out.size))
                by_cases hij : i < j
                · have hin : i < n := by omega
                  have i64 : i < 100 := by omega
                  obtain ⟨y1, hy1⟩ : ∃ y, y = l.getD j 0 := ⟨_, rfl⟩
                  obtain ⟨y0, hy0⟩ : ∃ y, y = l.getD i 0 := ⟨_, rfl⟩
                  have c5 := HX.out wr HBS.out j hjn
                  have c6 := HX.out wr HBS.out i hin
                  have hr1 := HRA.out j hjn
                  have hr0 := HRA.out i hin
                  rw [← hy1] at c5 hr1
                  rw [← hy0] at c6 hr0
                  have wd : IntKind.i64.wrap (y1 - y0) = y1 - y0 := IntWalk.i64_in _ (by omega)
                  have HY := Lib.hid (And.intro hy1 hy0)
                  clear hy1 hy0 hr1 hr0
                  by_cases hd : 1 < y1 - y0
                  · have dd : decide (1 < y1 - y0) = true := decide_eq_true hd
                    have hC : (fun W => (W.cell? ⟨q, 0, none⟩ = some (.slice a n ac) ∧ W.cell? ⟨q, 1, none⟩ = some gv ∧ W.cell? ⟨q, 2, none⟩ = some (.int .i64 tl) ∧ W.cell? ⟨q, 3, none⟩ = some (.int .i64 lo) ∧ W.cell? ⟨q, 4, none⟩ = some (.int .i64 hi)) ∧ W.cell? ⟨vb, vo + j, none⟩ = some (.int .i64 y1) ∧ W.cell? ⟨vb, vo + i, none⟩ = some (.int .i64 y0)) wr.drew := ⟨⟨by simpa using hbi.out.on j0, by simpa using hbi.out.on j1, by simpa using hbi.out.on j2, by simpa using hbi.out.on j3, by simpa using hbi.out.on j4⟩, by simpa using c5, by simpa using c6⟩
                    have HSU : Hid (∀ W, Below w.heap.size w W → Calls Try.prog 92 #[.agg #[.slice a n ac, gv, .int .i64 tl, .int .i64 lo, .int .i64 hi], .int .i64 (i : Int), .int .i64 (j : Int)] W fun e w' => e = .returned (.bool (p.sure i j)) ∧ Below W.heap.size W w') := Lib.hid fun W hW => HSR.out HOK.out.2 i j W hW (by rw [← HN.out]; exact hin) (by rw [← HN.out]; exact hjn)
                    have HB4 : Hid (Below w.heap.size w wr.drew) := Lib.hid HBS.out.drew
                    have HBX : Hid (Below wi.heap.size wi wr.drew) := Lib.hid hbi.out.drew
                    have HD := Lib.hid hd
                    clear c5 c6 j0 j1 j2 j3 j4 hd
                    go_wp2_with fail
                    generalize hW0 : wr.drew = w4 at HB4 HBX hC
                    refine Lim.regC' (fun W => (W.cell? ⟨q, 0, none⟩ = some (.slice a n ac) ∧ W.cell? ⟨q, 1, none⟩ = some gv ∧ W.cell? ⟨q, 2, none⟩ = some (.int .i64 tl) ∧ W.cell? ⟨q, 3, none⟩ = some (.int .i64 lo) ∧ W.cell? ⟨q, 4, none⟩ = some (.int .i64 hi)) ∧ W.cell? ⟨vb, vo + j, none⟩ = some (.int .i64 y1) ∧ W.cell? ⟨vb, vo + i, none⟩ = some (.int .i64 y0)) [] #[false, false, false, false, false, false, false, false, false, false, false, false, false, false, false, false] (by kernel_rfl) rfl ?_
                    rw [hW0]; clear hW0
                    refine Lim.stepR 0 (fun _ => trivial) rfl (by kernel_rfl) (fun _ _ _ _ h => h) hC rfl ?_; apply Exists.intro; refine ⟨?_, ?_⟩
                    · rintro w ⟨⟨r0, r1, r2, r3, r4⟩, r5, r6⟩; go_simp; try with_reducible rfl
                    simp only [Act.put, List.setIfInBounds_toArray, List.set_cons_succ, List.set_cons_zero]
                    refine Lim.stepR 1 (fun _ => trivial) rfl (by kernel_rfl) (fun _ _ _ _ h => h) hC rfl ?_; apply Exists.intro; refine ⟨?_, ?_⟩
                    · rintro w ⟨⟨r0, r1, r2, r3, r4⟩, r5, r6⟩; go_simp; try with_reducible rfl
                    simp only [Act.put, List.setIfInBounds_toArray, List.set_cons_succ, List.set_cons_zero]
                    refine Lim.stepR 2 (fun _ => trivial) rfl (by kernel_rfl) (fun _ _ _ _ h => h) hC rfl ?_; apply Exists.intro; refine ⟨?_, ?_⟩
                    · rintro w ⟨⟨r0, r1, r2, r3, r4⟩, r5, r6⟩; go_simp; try with_reducible rfl
                    simp only [Act.put, List.setIfInBounds_toArray, List.set_cons_succ, List.set_cons_zero]
                    refine Lim.stepR 3 (fun _ => trivial) rfl (by kernel_rfl) (fun _ _ _ _ h => h) hC rfl ?_; apply Exists.intro; refine ⟨?_, ?_⟩
                    · rintro w ⟨⟨r0, r1, r2, r3, r4⟩, r5, r6⟩; go_simp; try with_reducible rfl
                    simp only [Act.put, List.setIfInBounds_toArray, List.set_cons_succ, List.set_cons_zero]
                    refine Lim.stepR 4 (fun _ => trivial) rfl (by kernel_rfl) (fun _ _ _ _ h => h) hC rfl ?_; apply Exists.intro; refine ⟨?_, ?_⟩
                    · rintro w ⟨⟨r0, r1, r2, r3, r4⟩, r5, r6⟩; go_simp; try with_reducible rfl
                    simp only [Act.put, List.setIfInBounds_toArray, List.set_cons_succ, List.set_cons_zero]
                    refine Lim.stepR 5 (fun _ => trivial) rfl (by kernel_rfl) (fun _ _ _ _ h => h) hC rfl ?_; apply Exists.intro; refine ⟨?_, ?_⟩
                    · rintro w ⟨⟨r0, r1, r2, r3, r4⟩, r5, r6⟩; go_simp; try with_reducible rfl
                    simp only [Act.put, List.setIfInBounds_toArray, List.set_cons_succ, List.set_cons_zero]
                    refine Lim.stepR 6 (fun _ => trivial) rfl (by kernel_rfl) (fun _ _ _ _ h => h) hC rfl ?_; apply Exists.intro; refine ⟨?_, ?_⟩
                    · rintro w ⟨⟨r0, r1, r2, r3, r4⟩, r5, r6⟩; go_simp; try with_reducible rfl
                    simp only [Act.put, List.setIfInBounds_toArray, List.set_cons_succ, List.set_cons_zero]
                    refine Lim.stepR 7 (fun _ => trivial) rfl (by kernel_rfl) (fun _ _ _ _ h => h) hC rfl ?_; apply Exists.intro; refine ⟨?_, ?_⟩
                    · rintro w ⟨⟨r0, r1, r2, r3, r4⟩, r5, r6⟩; go_simp; try with_reducible rfl
                    simp only [Act.put, List.setIfInBounds_toArray, List.set_cons_succ, List.set_cons_zero]
                    refine Lim.stepR 8 (fun _ => trivial) rfl (by kernel_rfl) (fun _ _ _ _ h => h) hC rfl ?_; apply Exists.intro; refine ⟨?_, ?_⟩
                    · rintro w ⟨⟨r0, r1, r2, r3, r4⟩, r5, r6⟩; go_simp; try with_reducible rfl
                    simp only [Act.put, List.setIfInBounds_toArray, List.set_cons_succ, List.set_cons_zero]
                    refine Lim.stepR 9 (fun _ => trivial) rfl (by kernel_rfl) (fun _ _ _ _ h => h) hC rfl ?_; apply Exists.intro; refine ⟨?_, ?_⟩
                    · rintro w ⟨⟨r0, r1, r2, r3, r4⟩, r5, r6⟩; go_simp; try with_reducible rfl
                    simp only [Act.put, List.setIfInBounds_toArray, List.set_cons_succ, List.set_cons_zero]
                    refine Lim.stepR 10 (fun _ => trivial) rfl (by kernel_rfl) (fun _ _ _ _ h => h) hC rfl ?_; apply Exists.intro; refine ⟨?_, ?_⟩
                    · rintro w ⟨⟨r0, r1, r2, r3, r4⟩, r5, r6⟩; go_simp; try with_reducible rfl
                    simp only [Act.put, List.setIfInBounds_toArray, List.set_cons_succ, List.set_cons_zero]
                    refine Lim.stepR 11 (fun _ => trivial) rfl (by kernel_rfl) (fun _ _ _ _ h => h) hC rfl ?_; apply Exists.intro; refine ⟨?_, ?_⟩
                    · rintro w ⟨⟨r0, r1, r2, r3, r4⟩, r5, r6⟩; go_simp; try with_reducible rfl
                    simp only [Act.put, List.setIfInBounds_toArray, List.set_cons_succ, List.set_cons_zero]
                    refine Lim.stepR 12 (fun _ => trivial) rfl (by kernel_rfl) (fun _ _ _ _ h => h) hC rfl ?_; apply Exists.intro; refine ⟨?_, ?_⟩
                    · rintro w ⟨⟨r0, r1, r2, r3, r4⟩, r5, r6⟩; go_simp; try with_reducible rfl
                    simp only [Act.put, List.setIfInBounds_toArray, List.set_cons_succ, List.set_cons_zero]
                    refine Lim.stepR 13 (fun _ => trivial) rfl (by kernel_rfl) (fun _ _ _ _ h => h) hC rfl ?_; apply Exists.intro; refine ⟨?_, ?_⟩
                    · rintro w ⟨⟨r0, r1, r2, r3, r4⟩, r5, r6⟩; go_simp; try with_reducible rfl
                    simp only [Act.put, List.setIfInBounds_toArray, List.set_cons_succ, List.set_cons_zero]
                    refine Lim.stepE 14 (fun _ => trivial) rfl (by kernel_rfl) rfl (fun K hK => ?_)   -- E call
                    go_simp
                    refine ⟨rfl, (callsIn_wide.2 (HSU.out _ HB4.out)).mono ?_⟩
                    rintro e w5 ⟨rfl, hb5⟩
                    have hC5 : (fun W => (W.cell? ⟨q, 0, none⟩ = some (.slice a n ac) ∧ W.cell? ⟨q, 1, none⟩ = some gv ∧ W.cell? ⟨q, 2, none⟩ = some (.int .i64 tl) ∧ W.cell? ⟨q, 3, none⟩ = some (.int .i64 lo) ∧ W.cell? ⟨q, 4, none⟩ = some (.int .i64 hi)) ∧ W.cell? ⟨vb, vo + j, none⟩ = some (.int .i64 y1) ∧ W.cell? ⟨vb, vo + i, none⟩ = some (.int .i64 y0)) w5 := ⟨⟨hb5.on hC.1.1, hb5.on hC.1.2.1, hb5.on hC.1.2.2.1, hb5.on hC.1.2.2.2.1, hb5.on hC.1.2.2.2.2⟩, hb5.on hC.2.1, hb5.on hC.2.2⟩
                    have HB5 : Hid (Below w.heap.size w w5) := Lib.hid (HB4.out.trans (hb5.mono HB4.out.size))
                    have HBX5 : Hid (Below wi.heap.size wi w5) := Lib.hid (HBX.out.trans (hb5.mono HBX.out.size))
                    clear hb5
                    refine hK _ _ hC5 ?_
                    simp only [Act.put, List.setIfInBounds_toArray, List.set_cons_succ, List.set_cons_zero]
                    refine Lim.stepR 15 (fun _ => trivial) rfl (by kernel_rfl) (fun _ _ _ _ h => h) hC5 rfl ?_; apply Exists.intro; refine ⟨?_, ?_⟩
                    · rintro w ⟨⟨r0, r1, r2, r3, r4⟩, r5, r6⟩; go_simp; try with_reducible rfl
                    simp only [Act.put, List.setIfInBounds_toArray, List.set_cons_succ, List.set_cons_zero]
                    refine Lim.stepD (by kernel_rfl) ?_
                    obtain ⟨sv, hsv⟩ : ∃ s, s = p.sure i j := ⟨_, rfl⟩
                    have HSV := Lib.hid hsv
                    rw [← hsv]
                    clear hsv hC5
                    cases sv with
                    | true =>
                      have HNP : Hid (¬ Proof p.n p.sure l) := Lib.hid (fun hp => by
                        have := hp i j hij (by rw [← HN.out]; exact hjn) HSV.out.symm
                        rw [← HY.out.1, ← HY.out.2] at this
                        have := HD.out
                        omega)
                      go_wp2
                      go_ret2
                      exact ⟨HB5.out, 0, 9, rfl, .inr (.inr (.inr (.inl ⟨HOK.out.1, HLN.out, HLV.out, HNP.out, rfl, rfl⟩)))⟩
                    | false =>
                      go_wp2
                      go_roundw
                      case rel =>
                        refine ⟨i + 1, by omega, by go_num, HBX5, Lib.hid (fun y hy hs => ?_)⟩
                        by_cases e : y = i
                        · rw [e, ← HSV.out] at hs; cases hs
                        · exact hpi.out y (by omega) hs
                      case measure => simp [intOf]; omega
                  · have dd : decide (1 < y1 - y0) = false := decide_eq_false hd
                    have HD := Lib.hid hd
                    clear hd j0 j1 j2 j3 j4
                    go_wp2_with fail
                    go_quiet (fail)
                    go_wp2
                    go_roundw
                    case rel =>
                      refine ⟨i + 1, by omega, by go_num, Lib.hid (below_drewN hbi.out _), Lib.hid (fun y hy hs => ?_)⟩
                      by_cases e : y = i
                      · rw [e, ← HY.out.1, ← HY.out.2]; have := HD.out; omega
                      · exact hpi.out y (by omega) hs
                    case measure => simp [intOf]; omega
                · have hij2 : j = i := by omega
                  subst hij2
                  clear j0 j1 j2 j3 j4
                  go_wp2
                  go_roundw
                  case rel =>
                    refine ⟨j + 1, by omega, by omega, by go_num, Lib.hid (hbj.out.trans (hbi.out.mono hbj.out.size)), Lib.hid (fun x hx y hy hs => ?_)⟩
                    by_cases e : x = j
                    · subst e; exact hpi.out y hy hs
                    · exact hpj.out x (by omega) y hy hs
                  case measure => simp [intOf]; omega
            · have hjn2 : n = j := by omega
              subst hjn2
              have HPR : Hid (Proof p.n p.sure l) := Lib.hid (fun i j h1 h2 h3 => hpj.out j (by rw [HN.out]; exact h2) i h1 h3)
              obtain ⟨n1, hn1⟩ : ∃ n1, n1 = n - 1 := ⟨_, rfl⟩
              have wn : IntKind.i64.wrap ((n : Int) - 1) = (n1 : Int) := by rw [show (n : Int) - 1 = (n1 : Int) by have := HN40.out; omega]; exact IntWalk.i64_in _ (by omega)
              have hn1n : n1 < n := by have := HN40.out; omega
              have h0n : 0 < n := by omega
              obtain ⟨y1, hy1⟩ : ∃ y, y = l.getD n1 0 := ⟨_, rfl⟩
              obtain ⟨y0, hy0⟩ : ∃ y, y = l.getD 0 0 := ⟨_, rfl⟩
              have c5 := HX.out wi HBI.out n1 hn1n
              have c6 := HX.out wi HBI.out 0 h0n
              have hr1 := HRA.out n1 hn1n
              have hr0 := HRA.out 0 h0n
              rw [← hy1] at c5 hr1
              rw [← hy0] at c6 hr0
              rw [Nat.add_zero] at c6
              have wd : IntKind.i64.wrap (y1 - y0) = y1 - y0 := IntWalk.i64_in _ (by omega)
              have we : IntKind.i64.wrap (y1 - y0 + 1) = y1 - y0 + 1 := IntWalk.i64_in _ (by omega)
              have HY : Hid (y1 = l.getD (p.n - 1) 0 ∧ y0 = l.getD 0 0) := Lib.hid ⟨by rw [hy1, hn1, HN.out], hy0⟩
              clear hy1 hy0 hr1 hr0 hn1 j0 j1 j2 j3 j4
              go_wp2_with fail
              go_quiet (fail)
              go_wp2
              go_ret2
              exact ⟨below_drewN HBI.out _, y1 - y0 + 1, 0, rfl, .inr (.inr (.inr (.inr ⟨HOK.out.1, HLN.out, HLV.out, HPR.out, by rw [HY.out.1, HY.out.2], rfl⟩)))⟩
    · have d2 : ((m : Int) != (n : Int)) = true := by rw [bne_iff_ne]; omega
      have HNL : Hid (l.length ≠ p.n) := Lib.hid (fun e => hmn (by rw [HM.out, e, HN.out]))
      clear hmn
      go_wp2
      go_ret2
      exact ⟨HB2.out, 0, 2, rfl, .inr (.inl ⟨HOK.out.1, HNL.out, rfl, rfl⟩)⟩
  · have d1 : (er != 0) = true := by rw [bne_iff_ne]; exact he
    have HNE : Hid (p.err ≠ 0 ∧ p.err = er) := Lib.hid ⟨by rw [← her]; exact he, her.symm⟩
    clear k0 k1 k2 k3 k4 her he
    have HB := HB2
    go_wp2
    go_ret2
    exact ⟨HB.out, 0, er, rfl, .inl ⟨HNE.out.1, rfl, HNE.out.2.symm⟩⟩
end Go.Proofs.Ytobmhamdkngehaa
