/-
  Parts of the proof, in the order in which they build: SiG, SiH.
-/
import Derived.Test.YtiacgaplhndlnaaF34
set_option linter.unusedVariables false
set_option linter.unusedSimpArgs false
/-
  chain of package silence: whether a right arises with a paper.
-/
namespace Go.Proofs.Ytiacgaplhndlnaa
open Go.RowKit Go.Shelf
open Lim

attribute [local go_sem] Oper.semAt_some

theorem results_ctS {P : Program} {fn : Func} {p u : Tmp} {ty : TypeId} (h : fn.results = #[.cell p ty, .tmp u]) (tmps : Array Value) (w : World) (b : Nat) (v : Value)
    (hp : tmps.getD p undef = .pointer (some ⟨b, 0, none⟩)) (hl : (loadVar ty ⟨b, 0, none⟩).run P w = .ok v w) : (results fn tmps).run P w = .ok (.tuple #[v, tmps.getD u undef]) w := by
  have hp' : tmps[p]?.getD undef = .pointer (some ⟨b, 0, none⟩) := by simpa using hp
  simp [results, h, hp', asAddr, hl]
theorem heap_set_pairS {w : World} {q : Nat} {a b : Value} {t : TypeId} (c d : Value) (h : w.heap[q]? = some (.cells #[a, b] t (0, 0))) : ((w.setCell ⟨q, 0, none⟩ c).setCell ⟨q, 1, none⟩ d).heap[q]? = some (.cells #[c, d] t (0, 0)) := by
  have h1 := heap_setCell_self (o := 0) c h
  have h2 := heap_setCell_self (o := 1) d h1
  simpa using h2
theorem firstM_keep {f : Fil11} {T : List Int} {lo x : Nat} : ∀ {m m' : Nat}, m ≤ m' → firstM f T lo m = some x → firstM f T lo m' = some x
  | m, 0, h, e => by rw [Nat.le_zero.1 h] at e; exact e
  | m, m' + 1, h, e => by
    by_cases he : m = m' + 1
    · rw [← he]; exact e
    · have ih := firstM_keep (f := f) (T := T) (lo := lo) (x := x) (show m ≤ m' by omega) e
      rw [firstM, ih]
theorem firstM_step {f : Fil11} {T : List Int} {lo m : Nat} (h : firstM f T lo m = none) : firstM f T lo (m + 1) = if f.years ≤ T.getD (lo + m) 0 - T.getD lo 0 then some (lo + m) else none := by
  rw [firstM, h]
set_option maxRecDepth 20000 in
set_option maxHeartbeats 4000000 in
theorem chain_any {B b pc p : Nat} {pa : Option Addr} {tv : Value} {f : Fil11} {T : List Int} {w : World} (h : f.Ok) (hT : f.Is T) (hd : SiD B b pc pa tv f T w) :
    Calls Try.prog 110 #[.pointer (some ⟨b, 0, none⟩), .int .i64 p] w fun e w' => (∃ x y : Int, e = .returned (.tuple #[.agg #[.int .i64 x, .int .i64 y], .bool (hasB f T p)])) ∧ Below w.heap.size w w' := by
  have hb0 := (Below.refl _ w).alloc (Nat.le_refl _) (.cells #[.int .i64 0, .int .i64 0] 46)
  have HB0 := Lib.hid hb0
  have HD := Lib.hid (hd.on hb0)
  have HF := Lib.hid (And.intro h hT)
  have HQ : Hid ((w.alloc (.cells #[.int .i64 0, .int .i64 0] 46)).heap[w.heap.size]? = some (.cells #[.int .i64 0, .int .i64 0] 46 (0, 0))) := Lib.hid (heap_alloc_new _ _)
  have hn16 : f.n ≤ 16 := h.n
  have hTl : T.length = f.n := hT.1
  have CC := Lib.hid (chains_any h hT HD.out)
  have HCT := Lib.hid (chainsTo_ok f T f.n)
  have HHB : Hid (hasB f T p = (chainsTo f T f.n).any fun c => decide (firstB f T c = some p)) := Lib.hid rfl
  obtain ⟨ta, tc, etv⟩ : ∃ a c, tv = .slice a T.length c := by
    obtain ⟨a, c, e, -⟩ := hd.t
    exact ⟨a, c, e⟩
  subst etv
  obtain ⟨L, hL⟩ : ∃ L, L = chainsTo f T f.n := ⟨_, rfl⟩
  rw [← hL] at CC HCT HHB
  clear h hT hd hb0 hL
  go_enter Try.func110, Try.ntmps110
  obtain ⟨q, hq⟩ : ∃ q, q = w.heap.size := ⟨_, rfl⟩
  generalize hW : w.alloc (.cells #[.int .i64 0, .int .i64 0] 46) = w1 at HB0 HD HQ CC
  go_wp2_with fail
  rw [← hq] at HQ ⊢
  have HQQ := Lib.hid hq
  clear hq
  refine CC.out.mono ?_
  rintro e w2 ⟨v, rfl, ho, hb⟩
  have HL := Lib.hid (RS.of_owns ho)
  have HB2 := Lib.hid (HB0.out.trans (hb.mono HB0.out.size))
  have HD2 := Lib.hid (HD.out.on hb)
  have HQ2 : Hid (w2.heap[q]? = some (.cells #[.int .i64 0, .int .i64 0] 46 (0, 0))) := Lib.hid ((hb.block q (Array.getElem?_eq_some_iff.1 HQ.out).1).trans HQ.out)
  obtain ⟨va, vc, ev⟩ : ∃ a c, v = .slice a L.length c := by
    obtain ⟨a, c, e, -⟩ := HL.out
    exact ⟨a, c, e⟩
  subst ev
  have hL16 : L.length ≤ 16 := by have := HCT.out.2.1; omega
  clear ho hb CC HD HQ HB0 hW
  go_wp2_with fail
  go_loopw [12] (fun iv W => ∃ k : Nat, k ≤ L.length ∧ iv = .int .i64 k ∧ Hid (Below w2.heap.size w2 W ∧ ∀ c ∈ L.take k, firstB f T c ≠ some p)) (fun iv _ => L.length - (intOf iv).toNat)
  case atStart => exact ⟨0, Nat.zero_le _, rfl, Lib.hid ⟨Below.refl _ _, fun c hc => by simp at hc⟩⟩
  case round =>
    obtain ⟨k, hk, rfl, hI⟩ := hrel
    by_cases hlt : k < L.length
    · have hlt' : (k : Int) < L.length := by omega
      have hk16 : (k : Int) < 16 := by omega
      have hLk := HL.out.below hI.out.1
      obtain ⟨va', vc', ev, hcell⟩ := hLk
      simp only [Value.slice.injEq, true_and] at ev
      obtain ⟨rfl, rfl⟩ := ev
      obtain ⟨sb, so, eva, -, hcell2⟩ := hcell (spans_ne (by omega))
      subst eva
      have s0 := hcell2 _ _ (spans_lo L k hlt)
      have s1 := hcell2 _ _ (spans_hi L k hlt)
      obtain ⟨c, hc⟩ : ∃ c, c = L[k] := ⟨_, rfl⟩
      rw [← hc] at s0 s1
      have hcr := HCT.out.1 c (by rw [hc]; exact List.getElem_mem _)
      obtain ⟨lo, hlo⟩ : ∃ n : Nat, c.1 = n := ⟨c.1.toNat, by omega⟩
      obtain ⟨hi, hhi⟩ : ∃ n : Nat, c.2 = n := ⟨c.2.toNat, by omega⟩
      rw [hlo] at s0
      rw [hhi, ← Nat.add_assoc] at s1
      have hlh : lo ≤ hi ∧ hi < f.n := by omega
      have HFB : Hid (firstB f T c = firstM f T lo (hi + 1 - lo)) := Lib.hid (by
        unfold firstB
        rw [hlo, hhi, Int.toNat_natCast, show (((hi : Nat) : Int) + 1 - ((lo : Nat) : Int)).toNat = hi + 1 - lo by omega])
      have HTK : Hid (∀ c', c' ∈ L.take (k + 1) → c' ∈ L.take k ∨ c' = c) := Lib.hid (fun c' h => by
        rw [List.take_succ_eq_append_getElem hlt, ← hc] at h
        rcases List.mem_append.1 h with h | h
        · exact .inl h
        · exact .inr (List.mem_singleton.1 h))
      have HCL : Hid (c ∈ L) := Lib.hid (by rw [hc]; exact List.getElem_mem _)
      clear hcell hcell2 hc hcr hlo hhi
      have hbx : Below wr.heap.size wr (wr.alloc (.cells #[.int .i64 lo, .int .i64 hi] 46)) := (Below.refl _ _).alloc (Nat.le_refl _) _
      have x0 : (wr.alloc (.cells #[.int .i64 lo, .int .i64 hi] 46)).cell? ⟨wr.heap.size, 0, none⟩ = some (.int .i64 lo) := by simp [go_sem]
      have x1 : (wr.alloc (.cells #[.int .i64 lo, .int .i64 hi] 46)).cell? ⟨wr.heap.size, 1, none⟩ = some (.int .i64 hi) := by simp [go_sem]
      have HB5 := Lib.hid (hI.out.1.trans (hbx.mono hI.out.1.size))
      have HX0 := Lib.hid (And.intro x0 x1)
      clear hbx
      go_upto_region 4 with (fail)
      obtain ⟨qb, hqb⟩ : ∃ q, q = wr.heap.size := ⟨_, rfl⟩
      rw [← hqb] at x0 x1 HX0 ⊢
      generalize wr.alloc (.cells #[.int .i64 lo, .int .i64 hi] 46) = w5 at HB5 HX0 x0 x1 ⊢
      clear s0 s1 hqb
      go_wp2_with fail
      clear x0 x1
      go_loopw [8] (fun iv W => ∃ i : Nat, lo ≤ i ∧ i ≤ hi + 1 ∧ iv = .int .i64 i ∧ Hid (Below w5.heap.size w5 W ∧ firstM f T lo (i - lo) = none)) (fun iv _ => hi + 1 - (intOf iv).toNat)
      case atStart => exact ⟨lo, Nat.le_refl _, by omega, rfl, Lib.hid ⟨Below.refl _ _, by rw [Nat.sub_self]; rfl⟩⟩
      case round =>
        obtain ⟨i, hi1, hi2, rfl, hJ⟩ := hrel
        have x0 := hJ.out.1.on HX0.out.1
        have x1 := hJ.out.1.on HX0.out.2
        have HBW : Hid (Below w2.heap.size w2 wr) := Lib.hid (HB5.out.trans (hJ.out.1.mono HB5.out.size))
        by_cases hle : i ≤ hi
        · have t0 : decide (i ≤ hi) = true := decide_eq_true hle
          have HD3 := Lib.hid (HD2.out.on HBW.out)
          have d0 := HD3.out.c0
          have d3 := HD3.out.c3
          obtain ⟨gt, ot, eta, t1⟩ := cell_of_RS (p := i) HD3.out.t (by rw [hTl]; omega)
          subst eta
          obtain ⟨gt2, ot2, eta, t2⟩ := cell_of_RS (p := lo) HD3.out.t (by rw [hTl]; omega)
          simp only [Option.some.injEq, Addr.mk.injEq, and_true] at eta
          obtain ⟨rfl, rfl⟩ := eta
          obtain ⟨y, hy⟩ : ∃ y, y = T.getD i 0 := ⟨_, rfl⟩
          obtain ⟨z, hz⟩ : ∃ y, y = T.getD lo 0 := ⟨_, rfl⟩
          rw [← hy] at t1
          rw [← hz] at t2
          have hyz : 0 ≤ y ∧ y ≤ 3000 ∧ 0 ≤ z ∧ z ≤ 3000 := by
            have g1 := HF.out.2.2 i (by omega)
            have g2 := HF.out.1.lo i (by omega)
            have g3 := HF.out.1.hi i (by omega)
            have g4 := HF.out.2.2 lo (by omega)
            have g5 := HF.out.1.lo lo (by omega)
            have g6 := HF.out.1.hi lo (by omega)
            omega
          obtain ⟨d, hd⟩ : ∃ d, d = y - z := ⟨_, rfl⟩
          have ew : IntKind.i64.wrap (y - z) = d := by rw [hd]; exact IntWalk.i64_in _ (by omega)
          have HST : Hid (firstM f T lo (i + 1 - lo) = if f.years ≤ d then some i else none) := Lib.hid (by
            have h1 := firstM_step hJ.out.2
            rw [show lo + (i - lo) = i by omega, ← hy, ← hz, ← hd, show i - lo + 1 = i + 1 - lo by omega] at h1
            exact h1)
          have hTn : (i : Int) < T.length := by omega
          have hTo : (lo : Int) < T.length := by omega
          clear hy hz hyz hd
          obtain ⟨ys, hys⟩ : ∃ ys, ys = f.years := ⟨_, rfl⟩
          rw [← hys] at d0 HST
          clear hys
          by_cases hge : ys ≤ d
          · have t3 : decide (ys ≤ d) = true := decide_eq_true hge
            have HFI : Hid (firstB f T c = some i) := Lib.hid (by
              rw [HFB.out]
              exact firstM_keep (show i + 1 - lo ≤ hi + 1 - lo by omega) (by rw [HST.out, if_pos hge]))
            clear hge HST
            by_cases hip : i = p
            · have t4 : ((i : Int) == (p : Int)) = true := by rw [beq_iff_eq]; omega
              have HHP : Hid (hasB f T p = true) := Lib.hid (by
                rw [HHB.out, List.any_eq_true]
                exact ⟨c, HCL.out, by rw [HFI.out, hip]; simp⟩)
              have hg : wr.heap[q]? = some (.cells #[.int .i64 0, .int .i64 0] 46 (0, 0)) := (HBW.out.block q (Array.getElem?_eq_some_iff.1 HQ2.out).1).trans HQ2.out
              clear hip
              go_wp2_with fail
              go_quiet (fail)
              have HG : Hid ((wr.drewN nq).heap[q]? = some (.cells #[.int .i64 0, .int .i64 0] 46 (0, 0))) := Lib.hid hg
              have x0' : (wr.drewN nq).cell? ⟨qb, 0, none⟩ = some (.int .i64 lo) := x0
              have x1' : (wr.drewN nq).cell? ⟨qb, 1, none⟩ = some (.int .i64 hi) := x1
              have HBN : Hid (Below w.heap.size w (wr.drewN nq)) := Lib.hid (below_drewN (HB2.out.trans (HBW.out.mono HB2.out.size)) _)
              clear hg x0 x1 d0 d3 t1 t2 t3 ew t0
              generalize wr.drewN nq = w7 at HG x0' x1' HBN ⊢
              have b0 : w7.cell? ⟨q, 0, none⟩ = some (.int .i64 0) := by have h := HG.out; simp [World.cell?, h]
              have b1 : w7.cell? ⟨q, 1, none⟩ = some (.int .i64 0) := by have h := HG.out; simp [World.cell?, h]
              have b2 : w7.frozen? ⟨q, 0, none⟩ = false := by have h := HG.out; simp [World.frozen?, h]
              have b3 : w7.frozen? ⟨q, 1, none⟩ = false := by have h := HG.out; simp [World.frozen?, h]
              go_wp2_with fail
              have hb : Below w.heap.size w ((w7.setCell ⟨q, 0, none⟩ (.int .i64 lo)).setCell ⟨q, 1, none⟩ (.int .i64 hi)) := (HBN.out.setCell (p := ⟨q, 0, none⟩) (by rw [HQQ.out]; exact Nat.le_refl _) _).setCell (p := ⟨q, 1, none⟩) (by rw [HQQ.out]; exact Nat.le_refl _) _
              exact bodyPost_ret (results_ctS rfl _ _ q _ (by rfl) (run_loadVar_row _ q 46 46 _ (0, 0) _ (heap_set_pairS _ _ HG.out) Try.underlying46 (by rfl) (by kernel_rfl))) rfl ⟨⟨lo, hi, by rw [HHP.out]; rfl⟩, hb⟩
            · have t4 : ((i : Int) == (p : Int)) = false := by rw [beq_eq_false_iff_ne]; omega
              have HIP : Hid (i ≠ p) := Lib.hid hip
              clear hip
              go_wp2_with fail
              go_quiet (fail)
              go_wp2_with fail
              go_roundw
              case rel => exact ⟨k + 1, by omega, by go_num, Lib.hid ⟨below_drewN HBW.out _, fun c' h => by
                rcases HTK.out c' h with h | h
                · exact hI.out.2 c' h
                · rw [h, HFI.out]; intro e; exact HIP.out (by simpa using e)⟩⟩
              case measure => simp [intOf]; omega
          · have t3 : decide (ys ≤ d) = false := decide_eq_false hge
            have HFN : Hid (firstM f T lo (i + 1 - lo) = none) := Lib.hid (by rw [HST.out, if_neg hge])
            clear hge HST
            go_wp2_with fail
            go_quiet (fail)
            go_wp2_with fail
            go_roundw
            case rel => exact ⟨i + 1, by omega, by omega, by go_num, Lib.hid ⟨below_drewN hJ.out.1 _, HFN.out⟩⟩
            case measure => simp [intOf]; omega
        · have t0 : decide (i ≤ hi) = false := decide_eq_false hle
          have HNO : Hid (firstB f T c = none) := Lib.hid (by rw [HFB.out, ← hJ.out.2]; congr 1; omega)
          go_wp2_with fail
          go_roundw
          case rel => exact ⟨k + 1, by omega, by go_num, Lib.hid ⟨HBW.out, fun c' h => by
            rcases HTK.out c' h with h | h
            · exact hI.out.2 c' h
            · rw [h, HNO.out]; intro e; cases e⟩⟩
          case measure => simp [intOf]; omega
    · have HKL : Hid (k = L.length) := Lib.hid (by omega)
      have hlt' : ¬ (k : Int) < L.length := by omega
      have hg : wr.heap[q]? = some (.cells #[.int .i64 0, .int .i64 0] 46 (0, 0)) := (hI.out.1.block q (Array.getElem?_eq_some_iff.1 HQ2.out).1).trans HQ2.out
      have b0 : wr.cell? ⟨q, 0, none⟩ = some (.int .i64 0) := by simp [World.cell?, hg]
      have b1 : wr.cell? ⟨q, 1, none⟩ = some (.int .i64 0) := by simp [World.cell?, hg]
      have b2 : wr.frozen? ⟨q, 0, none⟩ = false := by simp [World.frozen?, hg]
      have b3 : wr.frozen? ⟨q, 1, none⟩ = false := by simp [World.frozen?, hg]
      have HG := Lib.hid hg
      clear hg
      go_wp2_with fail
      have hno : hasB f T p = false := by
        rw [HHB.out, List.any_eq_false]
        intro c hc
        have h1 := hI.out.2 c (by rw [HKL.out, List.take_length]; exact hc)
        simpa using h1
      have hb : Below w.heap.size w ((wr.setCell ⟨q, 0, none⟩ (.int .i64 0)).setCell ⟨q, 1, none⟩ (.int .i64 0)) := ((HB2.out.trans (hI.out.1.mono HB2.out.size)).setCell (p := ⟨q, 0, none⟩) (by rw [HQQ.out]; exact Nat.le_refl _) _).setCell (p := ⟨q, 1, none⟩) (by rw [HQQ.out]; exact Nat.le_refl _) _
      exact bodyPost_ret (results_ctS rfl _ _ q _ (by rfl) (run_loadVar_row _ q 46 46 _ (0, 0) _ (heap_set_pairS _ _ HG.out) Try.underlying46 (by rfl) (by kernel_rfl))) rfl ⟨⟨0, 0, by rw [hno]; rfl⟩, hb⟩
end Go.Proofs.Ytiacgaplhndlnaa
/-
  arises, Arises and Owner of package silence.
-/
namespace Go.Proofs.Ytiacgaplhndlnaa
open Go.RowKit Go.Shelf
open Lim

attribute [local go_sem] Oper.semAt_some

set_option maxRecDepth 20000 in
set_option maxHeartbeats 4000000 in
theorem arises_any {B b pc : Nat} {pa : Option Addr} {tv : Value} {f : Fil11} {T : List Int} {w : World} (h : f.Ok) (hT : f.Is T) (hd : SiD B b pc pa tv f T w) :
    Calls Try.prog 70 #[.pointer (some ⟨b, 0, none⟩)] w fun e w' => ∃ v, e = .returned v ∧ w'.ownsRow w.heap.size 3 1 v (arisesL f T f.n).length (ints (arisesL f T f.n)) ∧ Below w.heap.size w w' := by
  have HF := Lib.hid (And.intro h hT)
  have HD := Lib.hid hd
  have hn16 : f.n ≤ 16 := h.n
  have hn16' : (f.n : Int) ≤ 16 := by omega
  have hTl : T.length = f.n := hT.1
  have d3 := hd.c3
  obtain ⟨ta, tc, etv⟩ : ∃ a c, tv = .slice a T.length c := by
    obtain ⟨a, c, e, -⟩ := hd.t
    exact ⟨a, c, e⟩
  subst etv
  rw [hTl] at d3
  have H0 : Hid (Mem w w.heap.size [] [rwI (.slice none 0 0) 0 (arisesL f T 0)] [] w) := Lib.hid ((Mem.rowsR (Below.refl _ w) (Nat.le_refl _) (fun _ h => absurd h List.not_mem_nil)).nilQ 3 1)
  obtain ⟨i0, hi0, hz0, hz1, hz2⟩ := info_parts Try.infoInt
  have HI0 := Lib.hid (And.intro hi0 (And.intro hz0 (And.intro hz1 hz2)))
  clear h hT hd hi0 hz0 hz1 hz2
  go_enter Try.func70, Try.ntmps70
  go_wp2_with fail
  clear d3
  go_loopw [3, 12] (fun v iv W => ∃ i : Nat, i ≤ f.n ∧ iv = .int .i64 i ∧ Hid (Mem w w.heap.size [] [rwI v (arisesL f T i).length (arisesL f T i)] [] W)) (fun _ iv _ => f.n - (intOf iv).toNat)
  case atStart => exact ⟨0, Nat.zero_le _, rfl, H0⟩
  case round =>
    clear H0
    obtain ⟨i, hi, rfl, hI⟩ := hrel
    have HLN : Hid ((arisesL f T i).length ≤ 16) := Lib.hid (by have := arisesL_len f T i; omega)
    obtain ⟨va, vc, ev⟩ : ∃ a cap, u3 = .slice a (arisesL f T i).length cap := row_form (r := rwI u3 (arisesL f T i).length (arisesL f T i)) (hI.out.q _ (List.mem_singleton.2 rfl))
    subst ev
    by_cases hlt : i < f.n
    · have hlt' : (i : Int) < f.n := by omega
      have CN := Lib.hid (chain_any (p := i) HF.out.1 HF.out.2 (HD.out.on hI.out.b))
      go_wp2_with fail
      refine CN.out.mono ?_
      rintro e w3 ⟨⟨x, y, rfl⟩, hb⟩
      have hI3 : Hid (Mem w w.heap.size [] [rwI (.slice va (arisesL f T i).length vc) (arisesL f T i).length (arisesL f T i)] [] w3) := Lib.hid (hI.out.grow hb)
      clear CN hb hI
      obtain ⟨z, hz⟩ : ∃ z, z = hasB f T i := ⟨_, rfl⟩
      rw [← hz]
      have HE : Hid (arisesL f T (i + 1) = arisesL f T i ++ (if z = true then [(i : Int)] else [])) := Lib.hid (by rw [hz]; rfl)
      clear hz
      cases z with
      | false =>
        replace HE : Hid (arisesL f T (i + 1) = arisesL f T i) := Lib.hid (by rw [HE.out]; simp)
        go_wp2_with fail
        go_roundw
        case rel => exact ⟨i + 1, by omega, by go_num, by rw [HE.out]; exact Lib.hid (hI3.out.grow ((Below.refl _ w3).alloc (Nat.le_refl _) _))⟩
        case measure => simp [intOf]; omega
      | true =>
        replace HE : Hid (arisesL f T (i + 1) = arisesL f T i ++ [(i : Int)]) := Lib.hid (by rw [HE.out]; rfl)
        have hln := HLN.out
        go_upto_region 7 with (fail)
        have hI4 : Hid (Mem w w.heap.size [] [rwI (.slice va (arisesL f T i).length vc) (arisesL f T i).length (arisesL f T i)] [] (w3.alloc (.cells #[.int .i64 x, .int .i64 y] 46))) := Lib.hid (hI3.out.grow ((Below.refl _ w3).alloc (Nat.le_refl _) _))
        generalize w3.alloc (.cells #[.int .i64 x, .int .i64 y] 46) = w4 at hI4 ⊢
        have HMB : Hid (Mem w w.heap.size [] [rwI (.slice va (arisesL f T i).length vc) (arisesL f T i).length (arisesL f T i)] [] (w4.alloc (.cells #[.int .i64 i] 3))) := Lib.hid (hI4.out.grow ((Below.refl _ w4).alloc (Nat.le_refl _) _))
        have HOX : Hid ((w4.alloc (.cells #[.int .i64 i] 3)).ownsRow w.heap.size 3 1 (.slice va (arisesL f T i).length vc) (arisesL f T i).length (ints (arisesL f T i))) := Lib.hid (HMB.out.q (rwI (.slice va (arisesL f T i).length vc) (arisesL f T i).length (arisesL f T i)) (List.mem_singleton.2 rfl))
        go_wp2_with (at_builtin; refine wpList_append_own_at _ rfl _ _ 23 rfl w.heap.size 3 i0 (.int .i64 0) 1 8 Try.underlying23 HI0.out.1 HI0.out.2.1 HI0.out.2.2.1 HI0.out.2.2.2 rfl (by decide) _ _ _ rfl HOX.out ⟨w4.heap.size, 0, none⟩ 1 1 [.int .i64 i] rfl rfl (cell_one_new _ _ _) (by simp [Value.oneCell']) (by unfold maxLen; omega) (by omega) HMB.out.o ?_; intro v10 w10 hown8 hgrow _ hat; have HM10 : Hid (Mem w w.heap.size [] [rwI v10 (arisesL f T (i + 1)).length (arisesL f T (i + 1))] [] w10) := Lib.hid (by { rw [HE.out, List.length_append]; exact HMB.out.push (Q1 := []) hown8 hgrow hat }); clear hown8 hgrow hat)
        go_roundw
        case rel => exact ⟨i + 1, by omega, by go_num, HM10⟩
        case measure => simp [intOf]; omega
    · have HIN : Hid (i = f.n) := Lib.hid (by omega)
      have hlt' : ¬ (i : Int) < f.n := by omega
      go_wp2_with fail
      go_ret
      exact ⟨_, rfl, by rw [← HIN.out]; exact hI.out.q (rwI (.slice va (arisesL f T i).length vc) (arisesL f T i).length (arisesL f T i)) (List.mem_singleton.2 rfl), hI.out.b⟩
set_option maxRecDepth 20000 in
set_option maxHeartbeats 4000000 in
theorem Arises_any {B pc : Nat} {pa : Option Addr} {tv : Value} {f : Fil11} {T : List Int} {w : World} (h : f.Ok) (hT : f.Is T) (hB : B ≤ w.heap.size) (hv : RS B w (.slice pa f.n pc) f.n (paps f.P)) (ht : RS B w tv T.length (ints T)) :
    Calls Try.prog 28 #[.agg #[.int .i64 f.years, .int .i64 f.gap, .slice pa f.n pc], tv] w fun e w' => ∃ v, e = .returned (.tuple #[v, .int .i64 0]) ∧ w'.ownsRow w.heap.size 3 1 v (arisesL f T f.n).length (ints (arisesL f T f.n)) ∧ Below w.heap.size w w' := by
  have hb0 := (Below.refl _ w).alloc (Nat.le_refl _) (.cells #[.int .i64 f.years, .int .i64 f.gap, .slice pa f.n pc] 69)
  have HB0 := Lib.hid hb0
  have c0 : (w.alloc (.cells #[.int .i64 f.years, .int .i64 f.gap, .slice pa f.n pc] 69)).cell? ⟨w.heap.size, 0, none⟩ = some (.int .i64 f.years) := by simp [go_sem]
  have c1 : (w.alloc (.cells #[.int .i64 f.years, .int .i64 f.gap, .slice pa f.n pc] 69)).cell? ⟨w.heap.size, 1, none⟩ = some (.int .i64 f.gap) := by simp [go_sem]
  have c2 : (w.alloc (.cells #[.int .i64 f.years, .int .i64 f.gap, .slice pa f.n pc] 69)).cell? ⟨w.heap.size, 2, none⟩ = some (.slice pa f.n pc) := by simp [go_sem]
  have HF := Lib.hid (And.intro h hT)
  have CB := Lib.hid (sbegun_any h hT (Nat.le_trans hB hb0.size) (hv.below (hb0.mono hB)) (ht.below (hb0.mono hB)))
  obtain ⟨ta, tc, rfl, -⟩ := ht
  clear hb0 hv hT h hB
  go_enter Try.func28, Try.ntmps28
  generalize hW : w.alloc (.cells #[.int .i64 f.years, .int .i64 f.gap, .slice pa f.n pc] 69) = w1 at HB0 c0 c1 c2 CB
  go_wp2_with fail
  refine CB.out.mono ?_
  rintro e w2 ⟨b, rfl, -, hb, hd⟩
  have HB2 := Lib.hid (HB0.out.trans (hb.mono HB0.out.size))
  have CA := Lib.hid (arises_any HF.out.1 HF.out.2 hd)
  clear hb hd CB c0 c1 c2
  go_wp2_with fail
  refine CA.out.mono ?_
  rintro e w3 ⟨v, rfl, ho, hb⟩
  have HR := Lib.hid (And.intro (owns_mono ho HB2.out.size) (HB2.out.trans (hb.mono HB2.out.size)))
  clear ho hb CA
  go_wp2_with fail
  go_ret2
  exact ⟨v, rfl, HR.out⟩
set_option maxRecDepth 20000 in
set_option maxHeartbeats 4000000 in
theorem Owner_any {B pc : Nat} {pa : Option Addr} {tv : Value} {f : Fil11} {T : List Int} {w : World} (h : f.Ok) (hT : f.Is T) (hB : B ≤ w.heap.size) (hv : RS B w (.slice pa f.n pc) f.n (paps f.P)) (ht : RS B w tv T.length (ints T)) :
    Calls Try.prog 23 #[.agg #[.int .i64 f.years, .int .i64 f.gap, .slice pa f.n pc], tv] w fun e w' => e = .returned (.tuple #[.int .i64 (ownerF f T), .int .i64 0]) ∧ Below w.heap.size w w' := by
  have hb0 := (Below.refl _ w).alloc (Nat.le_refl _) (.cells #[.int .i64 f.years, .int .i64 f.gap, .slice pa f.n pc] 69)
  have HB0 := Lib.hid hb0
  have c0 : (w.alloc (.cells #[.int .i64 f.years, .int .i64 f.gap, .slice pa f.n pc] 69)).cell? ⟨w.heap.size, 0, none⟩ = some (.int .i64 f.years) := by simp [go_sem]
  have c1 : (w.alloc (.cells #[.int .i64 f.years, .int .i64 f.gap, .slice pa f.n pc] 69)).cell? ⟨w.heap.size, 1, none⟩ = some (.int .i64 f.gap) := by simp [go_sem]
  have c2 : (w.alloc (.cells #[.int .i64 f.years, .int .i64 f.gap, .slice pa f.n pc] 69)).cell? ⟨w.heap.size, 2, none⟩ = some (.slice pa f.n pc) := by simp [go_sem]
  have HF := Lib.hid (And.intro h hT)
  have HV := Lib.hid (And.intro (hv.below (hb0.mono hB)) (Nat.le_trans hB hb0.size))
  have CB := Lib.hid (sbegun_any h hT (Nat.le_trans hB hb0.size) (hv.below (hb0.mono hB)) (ht.below (hb0.mono hB)))
  obtain ⟨ta, tc, rfl, -⟩ := ht
  clear hb0 hv hT h hB
  go_enter Try.func23, Try.ntmps23
  generalize hW : w.alloc (.cells #[.int .i64 f.years, .int .i64 f.gap, .slice pa f.n pc] 69) = w1 at HB0 c0 c1 c2 CB HV
  go_wp2_with fail
  refine CB.out.mono ?_
  rintro e w2 ⟨b, rfl, -, hb, hd⟩
  have HB2 := Lib.hid (HB0.out.trans (hb.mono HB0.out.size))
  have HV2 := Lib.hid (And.intro (HV.out.1.below (hb.mono HV.out.2)) (Nat.le_trans HV.out.2 hb.size))
  have CA := Lib.hid (arises_any HF.out.1 HF.out.2 hd)
  replace c2 := hb.on c2
  clear hb hd CB c0 c1
  go_wp2_with fail
  refine CA.out.mono ?_
  rintro e w3 ⟨v, rfl, ho, hb⟩
  have HB3 := Lib.hid (HB2.out.trans (hb.mono HB2.out.size))
  have hv3 := HV2.out.1.below (hb.mono HV2.out.2)
  replace c2 := hb.on c2
  have hL := arisesL_len f T f.n
  have hlt := arisesL_lt f T f.n
  have hn16 := HF.out.1.n
  have HOF : Hid (ownerF f T = match (arisesL f T f.n).getLast? with | none => 2 | some x => (f.at x.toNat).s) := Lib.hid rfl
  obtain ⟨L, hLe⟩ : ∃ L, L = arisesL f T f.n := ⟨_, rfl⟩
  rw [← hLe] at ho hL hlt HOF
  clear hLe CA hb
  obtain ⟨va, vc, rfl⟩ : ∃ a c, v = .slice a L.length c := by
    obtain ⟨a, c, e, -⟩ := RS.of_owns ho
    exact ⟨a, c, e⟩
  by_cases h0 : L.length = 0
  · have t0 : ((L.length : Int) == 0) = true := by rw [beq_iff_eq]; omega
    have HO2 : Hid (ownerF f T = 2) := Lib.hid (by rw [HOF.out, List.length_eq_zero_iff.1 h0]; rfl)
    clear h0 hlt hL
    go_wp2_with fail
    go_ret2
    exact ⟨by rw [HO2.out]; rfl, HB3.out⟩
  · have t0 : ((L.length : Int) == 0) = false := by rw [beq_eq_false_iff_ne]; omega
    obtain ⟨j, hj⟩ : ∃ j, L.length = j + 1 := ⟨L.length - 1, by omega⟩
    obtain ⟨ln, hln⟩ : ∃ n, n = L.length := ⟨_, rfl⟩
    obtain ⟨go, oo, eva, a0⟩ := cell_of_RS (p := j) (RS.of_owns ho) (by omega)
    subst eva
    have hx := hlt (L.getD j 0) (by rw [List.getD_eq_getElem?_getD, List.getElem?_eq_getElem (by omega)]; exact List.getElem_mem _)
    have hlast : L.getLast? = some (L.getD j 0) := by
      rw [List.getLast?_eq_getElem?, hj, Nat.add_sub_cancel, List.getD_eq_getElem?_getD, List.getElem?_eq_getElem (by omega)]; rfl
    obtain ⟨x, hxe⟩ : ∃ x : Nat, L.getD j 0 = x := ⟨(L.getD j 0).toNat, by omega⟩
    rw [hxe] at a0 hx hlast
    obtain ⟨pb, po, cap, e, s0, -, -⟩ := pap_cells (k := x) hv3 (by omega)
    simp only [Value.slice.injEq, true_and] at e
    obtain ⟨rfl, rfl⟩ := e
    have HO2 : Hid (ownerF f T = (f.at x).s) := Lib.hid (by rw [HOF.out, hlast]; rfl)
    obtain ⟨s, hs⟩ : ∃ s, s = (f.at x).s := ⟨_, rfl⟩
    rw [← hs] at s0 HO2
    have ew : IntKind.i64.wrap ((ln : Int) - 1) = (j : Int) := by rw [IntWalk.i64_in _ (by omega)]; omega
    have hjl : (j : Int) < ln := by omega
    have hxn : (x : Int) < f.n := by omega
    rw [← hln] at t0 ⊢
    clear h0 hj hln hx hlast hxe hs hlt hL ho HOF hv3
    go_upto_region 7 with (fail)
    go_wp2_with fail
    go_quiet (fail)
    go_wp2_with fail
    go_ret2
    exact ⟨by rw [HO2.out]; rfl, below_drewN HB3.out _⟩
end Go.Proofs.Ytiacgaplhndlnaa
