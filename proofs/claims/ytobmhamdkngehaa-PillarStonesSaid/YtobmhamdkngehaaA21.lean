/-
  Parts of the proof, in the order in which they build: RpA, RpB, RpB2.
-/
import Derived.Test.YtobmhamdkngehaaA2
import Derived.Test.YtobmhamdkngehaaB1
import Derived.Test.YtobmhamdkngehaaA3
set_option linter.unusedVariables false
set_option linter.unusedSimpArgs false
/-
  The small functions of the reference: outside, wrong, heights.
-/
namespace Go.Proofs.Ytobmhamdkngehaa
open Go.RowKit Go.Shelf
open Lim

set_option maxHeartbeats 400000 in
theorem outside_any (n a b : Int) (w : World) : Calls Try.prog 66 #[.int .i64 n, .int .i64 a, .int .i64 b] w fun e w' => e = .returned (.bool (!inR n a b)) ∧ w = w' := by
  by_cases h1 : n < a
  · have hd : decide (n < a) = true := by simpa using h1
    rw [inR_false (.inl h1)]
    go_enter Try.func66, Try.ntmps66
    go_wp2
    go_ret
    exact ⟨rfl, rfl⟩
  · have hd : decide (n < a) = false := by simpa using h1
    by_cases h2 : b < n
    · have hd2 : decide (b < n) = true := by simpa using h2
      rw [inR_false (.inr h2)]
      go_enter Try.func66, Try.ntmps66
      go_wp2
      go_ret
      exact ⟨rfl, rfl⟩
    · have hd2 : decide (b < n) = false := by simpa using h2
      rw [inR_true (by omega) (by omega)]
      go_enter Try.func66, Try.ntmps66
      go_wp2
      go_ret
      exact ⟨rfl, rfl⟩
set_option maxHeartbeats 400000 in
theorem wrong_any (lo hi a b : Int) (w : World) : Calls Try.prog 88 #[.agg #[.int .i64 lo, .int .i64 hi], .int .i64 a, .int .i64 b] w fun e w' => e = .returned (.bool (!rightS (lo, hi) a b)) ∧ Below w.heap.size w w' := by
  by_cases h1 : lo < a
  · have hd : decide (lo < a) = true := by simpa using h1
    have hr : rightS (lo, hi) a b = false := by rw [Bool.eq_false_iff]; intro h; have := rightS_iff.1 h; simp only at this; omega
    rw [hr]
    clear hr
    go_enter Try.func88, Try.ntmps88
    go_wp2
    go_ret
    exact ⟨rfl, (Below.refl _ _).alloc (Nat.le_refl _) _⟩
  · have hd : decide (lo < a) = false := by simpa using h1
    by_cases h2 : b < hi
    · have hd2 : decide (b < hi) = true := by simpa using h2
      have hr : rightS (lo, hi) a b = false := by rw [Bool.eq_false_iff]; intro h; have := rightS_iff.1 h; simp only at this; omega
      rw [hr]
      clear hr
      go_enter Try.func88, Try.ntmps88
      go_wp2
      go_ret
      exact ⟨rfl, (Below.refl _ _).alloc (Nat.le_refl _) _⟩
    · have hd2 : decide (b < hi) = false := by simpa using h2
      by_cases h3 : hi < lo
      · have hd3 : decide (hi < lo) = true := by simpa using h3
        have hr : rightS (lo, hi) a b = false := by rw [Bool.eq_false_iff]; intro h; have := rightS_iff.1 h; simp only at this; omega
        rw [hr]
        clear hr
        go_enter Try.func88, Try.ntmps88
        go_wp2
        go_ret
        exact ⟨rfl, (Below.refl _ _).alloc (Nat.le_refl _) _⟩
      · have hd3 : decide (hi < lo) = false := by simpa using h3
        have hr : rightS (lo, hi) a b = true := rightS_iff.2 (by simp only; omega)
        rw [hr]
        clear hr
        go_enter Try.func88, Try.ntmps88
        go_wp2
        go_ret
        exact ⟨rfl, (Below.refl _ _).alloc (Nat.le_refl _) _⟩
theorem ints_map_snoc' (hs : List (Int × Int)) (f : Int × Int → Int) (k : Nat) (h : k < hs.length) : ints ((hs.take (k + 1)).map f) = ints ((hs.take k).map f) ++ [.int .i64 (f hs[k])] := by
  unfold ints
  rw [List.take_succ_eq_append_getElem h, List.map_append, List.map_append]; rfl
set_option maxRecDepth 20000 in
set_option maxHeartbeats 1000000 in
theorem heights_any {B : Nat} {av gv : Value} {tl lo hi : Int} {hs : List (Int × Int)} {b : Bool} {w : World} (hn : hs.length ≤ 100) (hB : B ≤ w.heap.size) (hh : RS B w gv hs.length (spans hs)) :
    Calls Try.prog 91 #[.agg #[av, gv, .int .i64 tl, .int .i64 lo, .int .i64 hi], .bool b] w fun e w' =>
      ∃ v, e = .returned v ∧ w'.ownsRow w.heap.size 3 1 v hs.length (ints (hs.map (endOf b))) ∧ Below w.heap.size w w' := by
  obtain ⟨ha, hcap, rfl, hha⟩ := hh
  obtain ⟨i0, hi0, hz0, hz1, hz2⟩ := info_parts Try.infoInt
  have HI := Lib.hid (And.intro hi0 (And.intro hz0 (And.intro hz1 hz2)))
  clear hi0 hz0 hz1 hz2
  go_enter Try.func91, Try.ntmps91
  go_wp2
  generalize hW : World.alloc _ _ = W0
  have hB0 : Below w.heap.size w W0 := by rw [← hW]; exact (Below.refl _ w).alloc (Nat.le_refl _) _
  have hsz : w.heap.size + 1 = W0.heap.size := by rw [← hW]; simp
  have f1 : W0.cell? ⟨w.heap.size, 1, none⟩ = some (.slice ha hs.length hcap) := by rw [← hW]; simp [go_sem]
  clear hW
  go_loopw [5, 6] (fun v i wr => ∃ k : Nat, k ≤ hs.length ∧ i = .int .i64 k ∧ wr.ownsRow (w.heap.size + 1) 3 1 v k (ints ((hs.take k).map (endOf b))) ∧ wr.cell? ⟨w.heap.size, 1, none⟩ = some (.slice ha hs.length hcap) ∧ Below w.heap.size w wr)
    (fun _ i _ => hs.length - (intOf i).toNat)
  case atStart => exact ⟨0, Nat.zero_le _, rfl, World.ownsRow_nil _ _ _ _, f1, hB0⟩
  case round =>
    obtain ⟨k, hk, rfl, hown, fr, hbr⟩ := hrel
    by_cases hlt : k < hs.length
    · obtain ⟨hb, hoff, rfl, hhb, hcell⟩ := hha (spans_ne (by omega))
      obtain ⟨lw, hlo⟩ : ∃ lw, lw = hs[k].1 := ⟨_, rfl⟩
      obtain ⟨up, hup⟩ : ∃ up, up = hs[k].2 := ⟨_, rfl⟩
      have q0 : wr.cell? ⟨hb, hoff + k * 2, none⟩ = some (.int .i64 lw) := by rw [hlo]; exact cell_below hbr (hcell _ _ (spans_lo _ k hlt)) (by simp; omega)
      have q1 : wr.cell? ⟨hb, hoff + k * 2 + 1, none⟩ = some (.int .i64 up) := by rw [hup]; exact cell_below hbr (hcell _ _ (spans_hi _ k hlt)) (by simp; omega)
      have HS : Hid (ints ((hs.take (k + 1)).map (endOf b)) = ints ((hs.take k).map (endOf b)) ++ [.int .i64 (if b then up else lw)]) := Lib.hid (by
        rw [ints_map_snoc' _ _ k hlt, hlo, hup]; cases b <;> rfl)
      clear hlo hup
      have hsz2 : w.heap.size < wr.heap.size := World.block_lt_of_cell? _ _ fr
      have HO := Lib.hid hown
      clear hcell hha f1 hB0 hsz hown
      cases b with
      | true =>
        go_wp2_with (at_builtin; refine wpList_append_own _ rfl _ _ 22 rfl (w.heap.size + 1) 3 i0 (.int .i64 0) 1 8 Try.underlying22 HI.out.1 HI.out.2.1 HI.out.2.2.1 HI.out.2.2.2 rfl (by decide) _ _ _ rfl (HO.out.alloc _) ⟨wr.heap.size, 0, none⟩ 1 1 [.int .i64 up] rfl rfl (cell_one_new _ _ _) (by simp [Value.oneCell']) (by unfold maxLen; omega) (by omega) (by simp; omega) ?_; intro v' w3 hown3 hgrow _)
        have hB3 : Below w.heap.size w w3 := (hbr.alloc hbr.size _).grown hgrow (by simp; omega) (fun j e => by have := HO.out.lt j e; omega)
        have fr3 := hgrow.cell (cell_al _ fr) (fun e => by have := HO.out.lt _ e.symm; simp at this; omega)
        clear hgrow fr q0 q1 hbr
        go_wp2
        go_roundw
        case rel => exact ⟨k + 1, by omega, by go_num, by rw [HS.out]; exact hown3, fr3, hB3⟩
        case measure => simp [intOf]; omega
      | false =>
        go_wp2_with (at_builtin; refine wpList_append_own _ rfl _ _ 22 rfl (w.heap.size + 1) 3 i0 (.int .i64 0) 1 8 Try.underlying22 HI.out.1 HI.out.2.1 HI.out.2.2.1 HI.out.2.2.2 rfl (by decide) _ _ _ rfl (HO.out.alloc _) ⟨wr.heap.size, 0, none⟩ 1 1 [.int .i64 lw] rfl rfl (cell_one_new _ _ _) (by simp [Value.oneCell']) (by unfold maxLen; omega) (by omega) (by simp; omega) ?_; intro v' w3 hown3 hgrow _)
        have hB3 : Below w.heap.size w w3 := (hbr.alloc hbr.size _).grown hgrow (by simp; omega) (fun j e => by have := HO.out.lt j e; omega)
        have fr3 := hgrow.cell (cell_al _ fr) (fun e => by have := HO.out.lt _ e.symm; simp at this; omega)
        clear hgrow fr q0 q1 hbr
        go_wp2
        go_roundw
        case rel => exact ⟨k + 1, by omega, by go_num, by rw [HS.out]; exact hown3, fr3, hB3⟩
        case measure => simp [intOf]; omega
    · obtain rfl : k = hs.length := by omega
      go_wp2
      go_ret
      refine ⟨_, rfl, ?_, hbr⟩
      simpa using owns_mono hown (Nat.le_succ _)
end Go.Proofs.Ytobmhamdkngehaa
/-
  Whether two places see each other, as the reference finds it: the contracts of clear and sure.
-/
namespace Go.Proofs.Ytobmhamdkngehaa
open Go.RowKit Go.Shelf
open Lim

/-- the numbers that clear reckons -/
theorem clear_nums {ai ak aj hi hj tl gk bd ln : Int} (h1 : ai ≤ ak) (h2 : ak ≤ aj) (h3 : 0 ≤ ai) (h4 : aj ≤ 20000) (h5 : 0 ≤ hi ∧ hi ≤ 1000000) (h6 : 0 ≤ hj ∧ hj ≤ 1000000) (h7 : 0 ≤ tl ∧ tl ≤ 2000) (h8 : 0 ≤ gk ∧ gk ≤ 1000000) (h9 : 0 ≤ bd ∧ bd ≤ 1000) (hl : ln = aj - ai) :
    ∃ a b s1 m1 s2 m2 st u6 u1 u2 u3 u4 u5 r, IntKind.i64.wrap (ak - ai) = a ∧ IntKind.i64.wrap (aj - ak) = b ∧ IntKind.i64.wrap (hi + tl) = s1 ∧ IntKind.i64.wrap (b * s1) = m1 ∧ IntKind.i64.wrap (hj + tl) = s2 ∧ IntKind.i64.wrap (a * s2) = m2 ∧ IntKind.i64.wrap (m1 + m2) = st ∧ IntKind.i64.wrap (st * 10000000) = u6 ∧
      IntKind.i64.wrap (gk * 10000000) = u1 ∧ IntKind.i64.wrap (bd * a) = u2 ∧ IntKind.i64.wrap (u2 * b) = u3 ∧ IntKind.i64.wrap (u1 + u3) = u4 ∧ IntKind.i64.wrap (ln * u4) = u5 ∧ IntKind.i64.wrap (u6 - u5) = r ∧
      r = - ((gk * 10000000 + bd * (ak - ai) * (aj - ak)) * ((ak - ai) + (aj - ak)) - ((hi + tl) * (aj - ak) + (hj + tl) * (ak - ai)) * 10000000) := by
  obtain ⟨a, ha⟩ : ∃ a, a = ak - ai := ⟨_, rfl⟩
  obtain ⟨b, hb⟩ : ∃ b, b = aj - ak := ⟨_, rfl⟩
  have hln : ln = a + b := by omega
  rw [← ha, ← hb, hln]
  have m1 := mul_bd (x := b) (y := hi + tl) (a := 20000) (b := 1002000) (by omega) (by omega) (by omega) (by omega)
  have m2 := mul_bd (x := a) (y := hj + tl) (a := 20000) (b := 1002000) (by omega) (by omega) (by omega) (by omega)
  have u2 := mul_bd (x := bd) (y := a) (a := 1000) (b := 20000) (by omega) (by omega) (by omega) (by omega)
  have u3 := mul_bd (x := bd * a) (y := b) (a := 1000 * 20000) (b := 20000) u2.1 u2.2 (by omega) (by omega)
  have u5 := mul_bd (x := a + b) (y := gk * 10000000 + bd * a * b) (a := 20000) (b := 1000000 * 10000000 + 1000 * 20000 * 20000) (by omega) (by omega) (by omega) (by omega)
  refine ⟨_, _, _, _, _, _, _, _, _, _, _, _, _, _, IntWalk.i64_in _ (by omega), IntWalk.i64_in _ (by omega), IntWalk.i64_in _ (by omega), IntWalk.i64_in _ (by omega), IntWalk.i64_in _ (by omega), IntWalk.i64_in _ (by omega), IntWalk.i64_in _ (by omega), IntWalk.i64_in _ (by omega), IntWalk.i64_in _ (by omega), IntWalk.i64_in _ (by omega), IntWalk.i64_in _ (by omega), IntWalk.i64_in _ (by omega), IntWalk.i64_in _ (by omega), IntWalk.i64_in _ (by omega), ?_⟩
  rw [Int.mul_comm (a + b), Int.mul_comm b (hi + tl), Int.mul_comm a (hj + tl)]
  omega
theorem end_bd {p : Pf} (hp : p.Ok) (b : Bool) {k : Nat} (hk : k < p.n) : 0 ≤ endOf b (p.g k) ∧ endOf b (p.g k) ≤ 1000000 := by
  have := hp.gr k hk
  cases b <;> simp only [endOf] <;> constructor <;> simp <;> omega
theorem bend_bd {p : Pf} (hp : p.Ok) (b : Bool) : 0 ≤ endOf b p.bend ∧ endOf b p.bend ≤ 1000 := by
  have := hp.bend
  cases b <;> simp only [endOf, Pf.bend] <;> constructor <;> simp <;> omega
theorem ends_at {p : Pf} (hp : p.Ok) (b : Bool) {k : Nat} (hk : k < p.n) : (ints (p.gr.map (endOf b)))[k]? = some (.int .i64 (endOf b (p.g k))) := by
  have h : k < p.gr.length := by rw [hp.gn]; exact hk
  unfold ints Pf.g
  rw [List.map_map, List.getElem?_map, List.getD_eq_getElem?_getD, List.getElem?_eq_getElem h]
  rfl
theorem ats_at {p : Pf} {k : Nat} (hk : k < p.n) : (ints p.ats)[k]? = some (.int .i64 (p.a k)) := by
  have h : k < p.ats.length := hk
  unfold ints Pf.a
  rw [List.getElem?_map, List.getD_eq_getElem?_getD, List.getElem?_eq_getElem h]
  rfl
set_option maxRecDepth 20000 in
set_option maxHeartbeats 2000000 in
theorem rclear_any {B : Nat} {p : Pf} {av gv hv sv : Value} {lo hi : Int} {hh bh : Bool} {i j : Nat} {w : World} (hp : p.Ok) (hin : i < p.n) (hjn : j < p.n) (hB : B ≤ w.heap.size) (ha : RS B w av p.n (ints p.ats)) (hhv : RS B w hv p.n (ints (p.gr.map (endOf hh)))) (hsv : RS B w sv p.n (ints (p.gr.map (endOf bh)))) :
    Calls Try.prog 90 #[.agg #[av, gv, .int .i64 p.tall, .int .i64 lo, .int .i64 hi], hv, sv, .int .i64 (endOf bh p.bend), .int .i64 i, .int .i64 j] w fun e w' => e = .returned (.bool (p.sees hh bh i j)) ∧ Below w.heap.size w w' := by
  have HP := Lib.hid hp
  have h2 := hp.n2
  have hne : ∀ l : List Value, l.length = p.n → l ≠ [] := fun l h e => by rw [e] at h; simp at h; omega
  obtain ⟨a0, ac, rfl, hac⟩ := ha
  obtain ⟨ab, ao, rfl, la, hac⟩ := hac (hne _ (by simp [ints]; rfl))
  obtain ⟨h0, hc, rfl, hhc⟩ := hhv
  obtain ⟨hb, ho, rfl, lh, hhc⟩ := hhc (hne _ (by simp [ints]; exact hp.gn))
  obtain ⟨s0, sc, rfl, hsc⟩ := hsv
  obtain ⟨sb, so, rfl, ls, hsc⟩ := hsc (hne _ (by simp [ints]; exact hp.gn))
  have HA : Hid (∀ W, Below w.heap.size w W → ∀ k, k < p.n → W.cell? ⟨ab, ao + k, none⟩ = some (.int .i64 (p.a k))) := Lib.hid fun W hW k hk => by
    rw [hW.cell (p := ⟨ab, ao + k, none⟩) (by show ab < _; omega)]; exact hac k _ (ats_at hk)
  have HH : Hid (∀ W, Below w.heap.size w W → ∀ k, k < p.n → W.cell? ⟨hb, ho + k, none⟩ = some (.int .i64 (endOf hh (p.g k)))) := Lib.hid fun W hW k hk => by
    rw [hW.cell (p := ⟨hb, ho + k, none⟩) (by show hb < _; omega)]; exact hhc k _ (ends_at hp hh hk)
  have HG : Hid (∀ W, Below w.heap.size w W → ∀ k, k < p.n → W.cell? ⟨sb, so + k, none⟩ = some (.int .i64 (endOf bh (p.g k)))) := Lib.hid fun W hW k hk => by
    rw [hW.cell (p := ⟨sb, so + k, none⟩) (by show sb < _; omega)]; exact hsc k _ (ends_at hp bh hk)
  have HM : Hid (Below w.heap.size w (w.alloc (.cells #[.slice (some ⟨ab, ao, none⟩) p.n ac, gv, .int .i64 p.tall, .int .i64 lo, .int .i64 hi] 35))) := Lib.hid ((Below.refl _ w).alloc (Nat.le_refl _) _)
  have HC : Hid ((w.alloc (.cells #[.slice (some ⟨ab, ao, none⟩) p.n ac, gv, .int .i64 p.tall, .int .i64 lo, .int .i64 hi] 35)).cell? ⟨w.heap.size, 0, none⟩ = some (.slice (some ⟨ab, ao, none⟩) p.n ac) ∧ (w.alloc (.cells #[.slice (some ⟨ab, ao, none⟩) p.n ac, gv, .int .i64 p.tall, .int .i64 lo, .int .i64 hi] 35)).cell? ⟨w.heap.size, 2, none⟩ = some (.int .i64 p.tall)) := Lib.hid ⟨by simp [go_sem], by simp [go_sem]⟩
  clear hac hhc hsc la lh ls hne hp hB h2
  by_cases hij : i ≤ j
  · have HE : Hid (∀ b, p.open hh bh i j = b → p.sees hh bh i j = b) := Lib.hid fun b h => by unfold Pf.sees; rw [Nat.min_eq_left hij, Nat.max_eq_right hij]; exact h
    have hLI := hin
    have hLJ := hjn
    clear hin hjn
    go_enter Try.func90, Try.ntmps90
    go_upto_region 1 with (fail)
    obtain ⟨q, hq⟩ : ∃ q, q = w.heap.size := ⟨_, rfl⟩
    have HQ := Lib.hid hq.symm
    simp only [← hq]
    rw [← hq] at HC
    clear hq
    generalize w.alloc (.cells #[.slice (some ⟨ab, ao, none⟩) p.n ac, gv, .int .i64 p.tall, .int .i64 lo, .int .i64 hi] 35) = w1 at HM HC ⊢
    have c0 := HC.out.1
    have c2 := HC.out.2
    obtain ⟨ai, hai⟩ : ∃ x, x = p.a i := ⟨_, rfl⟩
    obtain ⟨aj, haj⟩ : ∃ x, x = p.a j := ⟨_, rfl⟩
    have ki : w1.cell? ⟨ab, ao + i, none⟩ = some (.int .i64 ai) := by rw [hai]; exact HA.out w1 HM.out i hLI
    have kj : w1.cell? ⟨ab, ao + j, none⟩ = some (.int .i64 aj) := by rw [haj]; exact HA.out w1 HM.out j hLJ
    have HAI := Lib.hid hai
    have HAJ := Lib.hid haj
    have hbi := HP.out.ats i hLI
    have hbj := HP.out.ats j hLJ
    rw [← hai] at hbi
    rw [← haj] at hbj
    obtain ⟨ln, hln⟩ : ∃ x, x = aj - ai := ⟨_, rfl⟩
    have w0 : IntKind.i64.wrap (aj - ai) = ln := by rw [hln]; exact IntWalk.i64_in _ (by omega)
    have HLN := Lib.hid hln
    have HBB := Lib.hid (And.intro hbi hbj)
    clear hai haj hbi hbj hln
    have d1 : decide (j < i) = false := decide_eq_false (by omega)
    have d2 : decide ((j : Int) < (i : Int)) = false := decide_eq_false (by omega)
    go_wp2_with fail
    go_quiet (fail)
    clear ki kj w0
    have h64 : i < 100 := by have := HP.out.n40; omega
    go_wp2_with fail
    go_loopw [14] (fun iv wr => ∃ k : Nat, i + 1 ≤ k ∧ (k ≤ j ∨ k = i + 1) ∧ iv = .int .i64 k ∧ Hid (Below w1.heap.size w1 wr) ∧ Hid (∀ m, i < m → m < k → p.short hh bh i j m < 0)) (fun iv _ => j - (intOf iv).toNat)
    case atStart => exact ⟨i + 1, Nat.le_refl _, .inr rfl, by go_num, Lib.hid (below_drewN (Below.refl _ _) _), Lib.hid (by intro m h1 h2; omega)⟩
    case round =>
      obtain ⟨k, hk1, hk2, rfl, hbr, hno⟩ := hrel
      have HBR : Hid (Below w.heap.size w wr) := Lib.hid (HM.out.trans (hbr.out.mono HM.out.size))
      by_cases hlt : k < j
      · have hkn : k < p.n := by omega
        have k64 : k < 100 := by have := HP.out.n40; omega
        have c0r := hbr.out.on c0
        have c2r := hbr.out.on c2
        obtain ⟨ak, hak⟩ : ∃ x, x = p.a k := ⟨_, rfl⟩
        obtain ⟨xi, hxi⟩ : ∃ x, x = endOf hh (p.g i) := ⟨_, rfl⟩
        obtain ⟨xj, hxj⟩ : ∃ x, x = endOf hh (p.g j) := ⟨_, rfl⟩
        obtain ⟨gk, hgk⟩ : ∃ x, x = endOf bh (p.g k) := ⟨_, rfl⟩
        obtain ⟨tl, htl⟩ : ∃ x, x = p.tall := ⟨_, rfl⟩
        obtain ⟨bd, hbd⟩ : ∃ x, x = endOf bh p.bend := ⟨_, rfl⟩
        have ki : wr.cell? ⟨ab, ao + i, none⟩ = some (.int .i64 ai) := by rw [HAI.out]; exact HA.out wr HBR.out i hLI
        have kj : wr.cell? ⟨ab, ao + j, none⟩ = some (.int .i64 aj) := by rw [HAJ.out]; exact HA.out wr HBR.out j hLJ
        have kk : wr.cell? ⟨ab, ao + k, none⟩ = some (.int .i64 ak) := by rw [hak]; exact HA.out wr HBR.out k hkn
        have kxi : wr.cell? ⟨hb, ho + i, none⟩ = some (.int .i64 xi) := by rw [hxi]; exact HH.out wr HBR.out i hLI
        have kxj : wr.cell? ⟨hb, ho + j, none⟩ = some (.int .i64 xj) := by rw [hxj]; exact HH.out wr HBR.out j hLJ
        have kgk : wr.cell? ⟨sb, so + k, none⟩ = some (.int .i64 gk) := by rw [hgk]; exact HG.out wr HBR.out k hkn
        have hsh : p.short hh bh i j k = (gk * 10000000 + bd * (ak - ai) * (aj - ak)) * ((ak - ai) + (aj - ak)) - ((xi + tl) * (aj - ak) + (xj + tl) * (ak - ai)) * 10000000 := by rw [hgk, hbd, hak, HAI.out, HAJ.out, hxi, hxj, htl]; rfl
        obtain ⟨a, b, s1, m1, s2, m2, st, u6, u1, u2, u3, u4, u5, r, e1, e2, e3, e4, e5, e6, e7, e8, e9, e10, e11, e12, e13, e14, er⟩ := clear_nums (ai := ai) (ak := ak) (aj := aj) (hi := xi) (hj := xj) (tl := tl) (gk := gk) (bd := bd) (ln := ln)
          (by rw [HAI.out, hak]; exact Int.le_of_lt (HP.out.lt (by omega) hkn)) (by rw [HAJ.out, hak]; exact Int.le_of_lt (HP.out.lt hlt hLJ)) HBB.out.1.1 HBB.out.2.2
          (by rw [hxi]; exact end_bd HP.out hh hLI) (by rw [hxj]; exact end_bd HP.out hh hLJ) (by rw [htl]; exact HP.out.tall) (by rw [hgk]; exact end_bd HP.out bh hkn) (by rw [hbd]; exact bend_bd HP.out bh) HLN.out
        rw [← hsh] at er
        have HER := Lib.hid er
        have HTB := Lib.hid (And.intro htl hbd)
        rw [← htl] at c2r
        rw [← hbd]
        clear hak hxi hxj hgk htl hbd hsh er c0 c2
        by_cases hs : p.short hh bh i j k < 0
        · have hd : decide (r ≤ 0) = false := decide_eq_false (by rw [HER.out]; omega)
          have HS := Lib.hid hs
          clear hs
          go_wp2_with fail
          go_quiet (fail)
          go_wp2_with fail
          go_quiet (fail)
          go_wp2
          go_roundw
          case rel =>
            refine ⟨k + 1, by omega, .inl (by omega), by go_num, Lib.hid (below_drewN hbr.out _), Lib.hid (fun m h1 h2 => ?_)⟩
            by_cases e : m = k
            · rw [e]; exact HS.out
            · exact hno.out m h1 (by omega)
          case measure => simp [intOf]; omega
        · have hd : decide (r ≤ 0) = true := decide_eq_true (by rw [HER.out]; omega)
          have HS := Lib.hid hs
          clear hs
          go_wp2_with fail
          go_quiet (fail)
          go_wp2_with fail
          go_quiet (fail)
          go_wp2
          go_ret
          refine ⟨?_, below_drewN HBR.out _⟩
          have : p.open hh bh i j = false := by
            rw [Bool.eq_false_iff]
            intro h
            have h1 := HS.out
            have h2 := open_iff.1 h k (by omega) hlt
            omega
          rw [HE.out _ this]; rfl
      · have hex : p.open hh bh i j = true := open_iff.2 (fun m h1 h2 => hno.out m h1 (by omega))
        have HX := Lib.hid hex
        clear hex c0 c2
        go_wp2
        go_ret
        exact ⟨by rw [HE.out _ HX.out]; rfl, HBR.out⟩
  · have HE : Hid (∀ b, p.open hh bh j i = b → p.sees hh bh i j = b) := Lib.hid fun b h => by unfold Pf.sees; rw [Nat.min_eq_right (by omega), Nat.max_eq_left (by omega)]; exact h
    have hLI := hjn
    have hLJ := hin
    clear hin hjn
    go_enter Try.func90, Try.ntmps90
    go_upto_region 1 with (fail)
    obtain ⟨q, hq⟩ : ∃ q, q = w.heap.size := ⟨_, rfl⟩
    have HQ := Lib.hid hq.symm
    simp only [← hq]
    rw [← hq] at HC
    clear hq
    generalize w.alloc (.cells #[.slice (some ⟨ab, ao, none⟩) p.n ac, gv, .int .i64 p.tall, .int .i64 lo, .int .i64 hi] 35) = w1 at HM HC ⊢
    have c0 := HC.out.1
    have c2 := HC.out.2
    obtain ⟨ai, hai⟩ : ∃ x, x = p.a j := ⟨_, rfl⟩
    obtain ⟨aj, haj⟩ : ∃ x, x = p.a i := ⟨_, rfl⟩
    have ki : w1.cell? ⟨ab, ao + j, none⟩ = some (.int .i64 ai) := by rw [hai]; exact HA.out w1 HM.out j hLI
    have kj : w1.cell? ⟨ab, ao + i, none⟩ = some (.int .i64 aj) := by rw [haj]; exact HA.out w1 HM.out i hLJ
    have HAI := Lib.hid hai
    have HAJ := Lib.hid haj
    have hbi := HP.out.ats j hLI
    have hbj := HP.out.ats i hLJ
    rw [← hai] at hbi
    rw [← haj] at hbj
    obtain ⟨ln, hln⟩ : ∃ x, x = aj - ai := ⟨_, rfl⟩
    have w0 : IntKind.i64.wrap (aj - ai) = ln := by rw [hln]; exact IntWalk.i64_in _ (by omega)
    have HLN := Lib.hid hln
    have HBB := Lib.hid (And.intro hbi hbj)
    clear hai haj hbi hbj hln
    have d1 : decide (j < i) = true := decide_eq_true (by omega)
    have d2 : decide ((j : Int) < (i : Int)) = true := decide_eq_true (by omega)
    go_wp2_with fail
    go_quiet (fail)
    clear ki kj w0
    have h64 : j < 100 := by have := HP.out.n40; omega
    go_wp2_with fail
    go_loopw [14] (fun iv wr => ∃ k : Nat, j + 1 ≤ k ∧ (k ≤ i ∨ k = j + 1) ∧ iv = .int .i64 k ∧ Hid (Below w1.heap.size w1 wr) ∧ Hid (∀ m, j < m → m < k → p.short hh bh j i m < 0)) (fun iv _ => i - (intOf iv).toNat)
    case atStart => exact ⟨j + 1, Nat.le_refl _, .inr rfl, by go_num, Lib.hid (below_drewN (Below.refl _ _) _), Lib.hid (by intro m h1 h2; omega)⟩
    case round =>
      obtain ⟨k, hk1, hk2, rfl, hbr, hno⟩ := hrel
      have HBR : Hid (Below w.heap.size w wr) := Lib.hid (HM.out.trans (hbr.out.mono HM.out.size))
      by_cases hlt : k < i
      · have hkn : k < p.n := by omega
        have k64 : k < 100 := by have := HP.out.n40; omega
        have c0r := hbr.out.on c0
        have c2r := hbr.out.on c2
        obtain ⟨ak, hak⟩ : ∃ x, x = p.a k := ⟨_, rfl⟩
        obtain ⟨xi, hxi⟩ : ∃ x, x = endOf hh (p.g j) := ⟨_, rfl⟩
        obtain ⟨xj, hxj⟩ : ∃ x, x = endOf hh (p.g i) := ⟨_, rfl⟩
        obtain ⟨gk, hgk⟩ : ∃ x, x = endOf bh (p.g k) := ⟨_, rfl⟩
        obtain ⟨tl, htl⟩ : ∃ x, x = p.tall := ⟨_, rfl⟩
        obtain ⟨bd, hbd⟩ : ∃ x, x = endOf bh p.bend := ⟨_, rfl⟩
        have ki : wr.cell? ⟨ab, ao + j, none⟩ = some (.int .i64 ai) := by rw [HAI.out]; exact HA.out wr HBR.out j hLI
        have kj : wr.cell? ⟨ab, ao + i, none⟩ = some (.int .i64 aj) := by rw [HAJ.out]; exact HA.out wr HBR.out i hLJ
        have kk : wr.cell? ⟨ab, ao + k, none⟩ = some (.int .i64 ak) := by rw [hak]; exact HA.out wr HBR.out k hkn
        have kxi : wr.cell? ⟨hb, ho + j, none⟩ = some (.int .i64 xi) := by rw [hxi]; exact HH.out wr HBR.out j hLI
        have kxj : wr.cell? ⟨hb, ho + i, none⟩ = some (.int .i64 xj) := by rw [hxj]; exact HH.out wr HBR.out i hLJ
        have kgk : wr.cell? ⟨sb, so + k, none⟩ = some (.int .i64 gk) := by rw [hgk]; exact HG.out wr HBR.out k hkn
        have hsh : p.short hh bh j i k = (gk * 10000000 + bd * (ak - ai) * (aj - ak)) * ((ak - ai) + (aj - ak)) - ((xi + tl) * (aj - ak) + (xj + tl) * (ak - ai)) * 10000000 := by rw [hgk, hbd, hak, HAI.out, HAJ.out, hxi, hxj, htl]; rfl
        obtain ⟨a, b, s1, m1, s2, m2, st, u6, u1, u2, u3, u4, u5, r, e1, e2, e3, e4, e5, e6, e7, e8, e9, e10, e11, e12, e13, e14, er⟩ := clear_nums (ai := ai) (ak := ak) (aj := aj) (hi := xi) (hj := xj) (tl := tl) (gk := gk) (bd := bd) (ln := ln)
          (by rw [HAI.out, hak]; exact Int.le_of_lt (HP.out.lt (by omega) hkn)) (by rw [HAJ.out, hak]; exact Int.le_of_lt (HP.out.lt hlt hLJ)) HBB.out.1.1 HBB.out.2.2
          (by rw [hxi]; exact end_bd HP.out hh hLI) (by rw [hxj]; exact end_bd HP.out hh hLJ) (by rw [htl]; exact HP.out.tall) (by rw [hgk]; exact end_bd HP.out bh hkn) (by rw [hbd]; exact bend_bd HP.out bh) HLN.out
        rw [← hsh] at er
        have HER := Lib.hid er
        have HTB := Lib.hid (And.intro htl hbd)
        rw [← htl] at c2r
        rw [← hbd]
        clear hak hxi hxj hgk htl hbd hsh er c0 c2
        by_cases hs : p.short hh bh j i k < 0
        · have hd : decide (r ≤ 0) = false := decide_eq_false (by rw [HER.out]; omega)
          have HS := Lib.hid hs
          clear hs
          go_wp2_with fail
          go_quiet (fail)
          go_wp2_with fail
          go_quiet (fail)
          go_wp2
          go_roundw
          case rel =>
            refine ⟨k + 1, by omega, .inl (by omega), by go_num, Lib.hid (below_drewN hbr.out _), Lib.hid (fun m h1 h2 => ?_)⟩
            by_cases e : m = k
            · rw [e]; exact HS.out
            · exact hno.out m h1 (by omega)
          case measure => simp [intOf]; omega
        · have hd : decide (r ≤ 0) = true := decide_eq_true (by rw [HER.out]; omega)
          have HS := Lib.hid hs
          clear hs
          go_wp2_with fail
          go_quiet (fail)
          go_wp2_with fail
          go_quiet (fail)
          go_wp2
          go_ret
          refine ⟨?_, below_drewN HBR.out _⟩
          have : p.open hh bh j i = false := by
            rw [Bool.eq_false_iff]
            intro h
            have h1 := HS.out
            have h2 := open_iff.1 h k (by omega) hlt
            omega
          rw [HE.out _ this]; rfl
      · have hex : p.open hh bh j i = true := open_iff.2 (fun m h1 h2 => hno.out m h1 (by omega))
        have HX := Lib.hid hex
        clear hex c0 c2
        go_wp2
        go_ret
        exact ⟨by rw [HE.out _ HX.out]; rfl, HBR.out⟩
end Go.Proofs.Ytobmhamdkngehaa
/-
  Whether two places see each other, as the reference finds it: the contracts of clear and sure.
-/
namespace Go.Proofs.Ytobmhamdkngehaa
open Go.RowKit Go.Shelf
open Lim

set_option maxRecDepth 20000 in
set_option maxHeartbeats 2000000 in
theorem rsure_any {B : Nat} {p : Pf} {av gv : Value} {i j : Nat} {w : World} (hp : p.Ok) (hin : i < p.n) (hjn : j < p.n) (hB : B ≤ w.heap.size) (ha : RS B w av p.ats.length (ints p.ats)) (hg : RS B w gv p.gr.length (spans p.gr)) :
    Calls Try.prog 92 #[.agg #[av, gv, .int .i64 p.tall, .int .i64 p.lo, .int .i64 p.hi], .int .i64 i, .int .i64 j] w fun e w' => e = .returned (.bool (p.sure i j)) ∧ Below w.heap.size w w' := by
  have HN : Hid (p.gr.length ≤ 100) := Lib.hid (by have := hp.gn; have := hp.n40; omega)
  have HL : Hid (p.gr.length = p.n) := Lib.hid hp.gn
  have h1a : av.oneCell' = true := by obtain ⟨a, c, rfl, -⟩ := ha; rfl
  have h1g : gv.oneCell' = true := by obtain ⟨a, c, rfl, -⟩ := hg; rfl
  have HR := Lib.hid (And.intro hB (And.intro ha (And.intro hg (And.intro hp (And.intro hin hjn)))))
  have HM : Hid (Below w.heap.size w (w.alloc (.cells #[av, gv, .int .i64 p.tall, .int .i64 p.lo, .int .i64 p.hi] 35))) := Lib.hid ((Below.refl _ w).alloc (Nat.le_refl _) _)
  have HC : Hid ((fun W => W.cell? ⟨w.heap.size, 0, none⟩ = some av ∧ W.cell? ⟨w.heap.size, 1, none⟩ = some gv ∧ W.cell? ⟨w.heap.size, 2, none⟩ = some (.int .i64 p.tall) ∧ W.cell? ⟨w.heap.size, 3, none⟩ = some (.int .i64 p.lo) ∧ W.cell? ⟨w.heap.size, 4, none⟩ = some (.int .i64 p.hi)) (w.alloc (.cells #[av, gv, .int .i64 p.tall, .int .i64 p.lo, .int .i64 p.hi] 35))) := Lib.hid ⟨by simp [go_sem], by simp [go_sem], by simp [go_sem], by simp [go_sem], by simp [go_sem]⟩
  clear hB ha hg hp hin hjn
  go_enter Try.func92, Try.ntmps92
  go_upto_region 1 with (fail)
  obtain ⟨q, hq⟩ : ∃ q, q = w.heap.size := ⟨_, rfl⟩
  rw [← hq] at HC
  simp only [← hq]
  clear hq
  generalize w.alloc (.cells #[av, gv, .int .i64 p.tall, .int .i64 p.lo, .int .i64 p.hi] 35) = w1 at HM HC ⊢
  have HB4 : Hid (Below w.heap.size w w1.drew) := Lib.hid (HM.out.trans ((Below.refl _ w1).drew.mono HM.out.size))
  have hC : (fun W => W.cell? ⟨q, 0, none⟩ = some av ∧ W.cell? ⟨q, 1, none⟩ = some gv ∧ W.cell? ⟨q, 2, none⟩ = some (.int .i64 p.tall) ∧ W.cell? ⟨q, 3, none⟩ = some (.int .i64 p.lo) ∧ W.cell? ⟨q, 4, none⟩ = some (.int .i64 p.hi)) w1.drew := HC.out
  clear HM HC
  generalize hW0 : w1.drew = w4 at HB4 hC
  refine Lim.regC' (fun W => W.cell? ⟨q, 0, none⟩ = some av ∧ W.cell? ⟨q, 1, none⟩ = some gv ∧ W.cell? ⟨q, 2, none⟩ = some (.int .i64 p.tall) ∧ W.cell? ⟨q, 3, none⟩ = some (.int .i64 p.lo) ∧ W.cell? ⟨q, 4, none⟩ = some (.int .i64 p.hi)) [] #[false, false, false, false, false, false, false, false, false, false, false, false] (by kernel_rfl) rfl ?_
  rw [hW0]; clear hW0
  refine Lim.stepR 0 (fun _ => trivial) rfl (by kernel_rfl) (fun _ _ _ _ h => h) hC rfl ?_; apply Exists.intro; refine ⟨?_, ?_⟩
  · rintro w ⟨r0, r1, r2, r3, r4⟩; go_simp; try with_reducible rfl
  simp only [Act.put, List.setIfInBounds_toArray, List.set_cons_succ, List.set_cons_zero]
  refine Lim.stepR 1 (fun _ => trivial) rfl (by kernel_rfl) (fun _ _ _ _ h => h) hC rfl ?_; apply Exists.intro; refine ⟨?_, ?_⟩
  · rintro w ⟨r0, r1, r2, r3, r4⟩; go_simp; try with_reducible rfl
  simp only [Act.put, List.setIfInBounds_toArray, List.set_cons_succ, List.set_cons_zero]
  refine Lim.stepR 3 (fun _ => trivial) rfl (by kernel_rfl) (fun _ _ _ _ h => h) hC rfl ?_; apply Exists.intro; refine ⟨?_, ?_⟩
  · rintro w ⟨r0, r1, r2, r3, r4⟩; go_simp; try with_reducible rfl
  simp only [Act.put, List.setIfInBounds_toArray, List.set_cons_succ, List.set_cons_zero]
  refine Lim.stepR 5 (fun _ => trivial) rfl (by kernel_rfl) (fun _ _ _ _ h => h) hC rfl ?_; apply Exists.intro; refine ⟨?_, ?_⟩
  · rintro w ⟨r0, r1, r2, r3, r4⟩; go_simp; try with_reducible rfl
  simp only [Act.put, List.setIfInBounds_toArray, List.set_cons_succ, List.set_cons_zero]
  refine Lim.stepR 6 (fun _ => trivial) rfl (by kernel_rfl) (fun _ _ _ _ h => h) hC rfl ?_; apply Exists.intro; refine ⟨?_, ?_⟩
  · rintro w ⟨r0, r1, r2, r3, r4⟩; go_simp; try with_reducible rfl
  simp only [Act.put, List.setIfInBounds_toArray, List.set_cons_succ, List.set_cons_zero]
  refine Lim.stepR 7 (fun _ => trivial) rfl (by kernel_rfl) (fun _ _ _ _ h => h) hC rfl ?_; apply Exists.intro; refine ⟨?_, ?_⟩
  · rintro w ⟨r0, r1, r2, r3, r4⟩; go_simp; try with_reducible rfl
  simp only [Act.put, List.setIfInBounds_toArray, List.set_cons_succ, List.set_cons_zero]
  refine Lim.stepR 8 (fun _ => trivial) rfl (by kernel_rfl) (fun _ _ _ _ h => h) hC rfl ?_; apply Exists.intro; refine ⟨?_, ?_⟩
  · rintro w ⟨r0, r1, r2, r3, r4⟩; go_simp; try with_reducible rfl
  simp only [Act.put, List.setIfInBounds_toArray, List.set_cons_succ, List.set_cons_zero]
  refine Lim.stepR 9 (fun _ => trivial) rfl (by kernel_rfl) (fun _ _ _ _ h => h) hC rfl ?_; apply Exists.intro; refine ⟨?_, ?_⟩
  · rintro w ⟨r0, r1, r2, r3, r4⟩; go_simp; try with_reducible rfl
  simp only [Act.put, List.setIfInBounds_toArray, List.set_cons_succ, List.set_cons_zero]
  refine Lim.stepE 2 (fun _ => trivial) rfl (by kernel_rfl) rfl (fun K hK => ?_)   -- E call
  go_simp
  refine ⟨rfl, (callsIn_wide.2 (heights_any (b := false) HN.out (Nat.le_trans HR.out.1 HB4.out.size) (HR.out.2.2.1.below (HB4.out.mono HR.out.1)))).mono ?_⟩
  rintro e w5 ⟨v5, rfl, ho5, hb5⟩
  have hC2 : (fun W => W.cell? ⟨q, 0, none⟩ = some av ∧ W.cell? ⟨q, 1, none⟩ = some gv ∧ W.cell? ⟨q, 2, none⟩ = some (.int .i64 p.tall) ∧ W.cell? ⟨q, 3, none⟩ = some (.int .i64 p.lo) ∧ W.cell? ⟨q, 4, none⟩ = some (.int .i64 p.hi)) w5 := ⟨hb5.on hC.1, hb5.on hC.2.1, hb5.on hC.2.2.1, hb5.on hC.2.2.2.1, hb5.on hC.2.2.2.2⟩
  have HB5 : Hid (Below w4.heap.size w4 w5) := Lib.hid hb5
  have hr5 := RS.of_owns ho5
  rw [HL.out] at hr5
  have HO5 := Lib.hid hr5
  obtain ⟨a5, c5, rfl, -⟩ := hr5
  clear ho5 hb5 hC
  refine hK _ _ hC2 ?_
  simp only [Act.put, List.setIfInBounds_toArray, List.set_cons_succ, List.set_cons_zero]
  refine Lim.stepE 4 (fun _ => trivial) rfl (by kernel_rfl) rfl (fun K hK => ?_)   -- E call
  go_simp
  refine ⟨rfl, (callsIn_wide.2 (heights_any (b := true) HN.out (Nat.le_trans HR.out.1 (Nat.le_trans HB4.out.size HB5.out.size)) (HR.out.2.2.1.below ((HB4.out.trans (HB5.out.mono HB4.out.size)).mono HR.out.1)))).mono ?_⟩
  rintro e w6 ⟨v6, rfl, ho6, hb6⟩
  have hC3 : (fun W => W.cell? ⟨q, 0, none⟩ = some av ∧ W.cell? ⟨q, 1, none⟩ = some gv ∧ W.cell? ⟨q, 2, none⟩ = some (.int .i64 p.tall) ∧ W.cell? ⟨q, 3, none⟩ = some (.int .i64 p.lo) ∧ W.cell? ⟨q, 4, none⟩ = some (.int .i64 p.hi)) w6 := ⟨hb6.on hC2.1, hb6.on hC2.2.1, hb6.on hC2.2.2.1, hb6.on hC2.2.2.2.1, hb6.on hC2.2.2.2.2⟩
  have HB6 : Hid (Below w4.heap.size w4 w6) := Lib.hid (HB5.out.trans (hb6.mono HB5.out.size))
  have hr6 := RS.of_owns ho6
  rw [HL.out] at hr6
  have HO6 := Lib.hid (And.intro ((HO5.out.below hb6).mono hb6.size) hr6)
  obtain ⟨a6, c6, rfl, -⟩ := hr6
  clear ho6 hb6 hC2 HO5 HB5
  refine hK _ _ hC3 ?_
  simp only [Act.put, List.setIfInBounds_toArray, List.set_cons_succ, List.set_cons_zero]
  refine Lim.stepE 10 (fun _ => trivial) rfl (by kernel_rfl) rfl (fun K hK => ?_)   -- E call
  go_simp
  refine ⟨rfl, (callsIn_wide.2 (rclear_any HR.out.2.2.2.1 HR.out.2.2.2.2.1 HR.out.2.2.2.2.2 (Nat.le_refl _) ((HR.out.2.1.below ((HB4.out.trans (HB6.out.mono HB4.out.size)).mono HR.out.1)).mono (Nat.le_trans HR.out.1 (Nat.le_trans HB4.out.size HB6.out.size))) HO6.out.1 HO6.out.2)).mono ?_⟩
  rintro e w7 ⟨rfl, hb7⟩
  have HB7 : Hid (Below w.heap.size w w7) := Lib.hid (HB4.out.trans ((HB6.out.trans (hb7.mono HB6.out.size)).mono HB4.out.size))
  have hC4 : (fun W => W.cell? ⟨q, 0, none⟩ = some av ∧ W.cell? ⟨q, 1, none⟩ = some gv ∧ W.cell? ⟨q, 2, none⟩ = some (.int .i64 p.tall) ∧ W.cell? ⟨q, 3, none⟩ = some (.int .i64 p.lo) ∧ W.cell? ⟨q, 4, none⟩ = some (.int .i64 p.hi)) w7 := ⟨hb7.on hC3.1, hb7.on hC3.2.1, hb7.on hC3.2.2.1, hb7.on hC3.2.2.2.1, hb7.on hC3.2.2.2.2⟩
  clear hb7 hC3
  refine hK _ _ hC4 ?_
  simp only [Act.put, List.setIfInBounds_toArray, List.set_cons_succ, List.set_cons_zero]
  refine Lim.stepR 11 (fun _ => trivial) rfl (by kernel_rfl) (fun _ _ _ _ h => h) hC4 rfl ?_; apply Exists.intro; refine ⟨?_, ?_⟩
  · rintro w ⟨r0, r1, r2, r3, r4⟩; go_simp; try with_reducible rfl
  simp only [Act.put, List.setIfInBounds_toArray, List.set_cons_succ, List.set_cons_zero]
  refine Lim.stepD (by kernel_rfl) ?_
  go_wp2
  go_ret
  exact ⟨rfl, HB7.out⟩
end Go.Proofs.Ytobmhamdkngehaa
