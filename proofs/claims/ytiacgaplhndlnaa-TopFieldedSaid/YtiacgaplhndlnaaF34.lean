/-
  Parts of the proof, in the order in which they build: SiE, SiF.
-/
import Derived.Maps.AppendAt
import Derived.Test.YtiacgaplhndlnaaF33
import Derived.Test.YtiacgaplhndlnaaF27
set_option linter.unusedVariables false
set_option linter.unusedSimpArgs false
/-
  goes of package silence.
-/
namespace Go.Proofs.Ytiacgaplhndlnaa
open Go.RowKit Go.Shelf
open Lim

attribute [local go_sem] Oper.semAt_some

set_option maxRecDepth 20000 in
set_option maxHeartbeats 2000000 in
theorem goes_any {B pc i : Nat} {pa : Option Addr} {f : Fil11} {y a : Int} {w : World} (h : f.Ok) (hi0 : 0 < i) (hi : i < f.n) (hB : B ≤ w.heap.size) (hv : RS B w (.slice pa f.n pc) f.n (paps f.P)) (hy : 0 ≤ y ∧ y ≤ 3000) (ha : 0 ≤ a ∧ a ≤ 3000) :
    Calls Try.prog 163 #[.agg #[.int .i64 f.years, .int .i64 f.gap, .slice pa f.n pc], .int .i64 i, .int .i64 y, .int .i64 a] w fun e w' => e = .returned (.bool (goesB f i y a)) ∧ Below w.heap.size w w' := by
  have hb0 := (Below.refl _ w).alloc (Nat.le_refl _) (.cells #[.int .i64 f.years, .int .i64 f.gap, .slice pa f.n pc] 69)
  have HB0 := Lib.hid hb0
  have c1 : (w.alloc (.cells #[.int .i64 f.years, .int .i64 f.gap, .slice pa f.n pc] 69)).cell? ⟨w.heap.size, 1, none⟩ = some (.int .i64 f.gap) := by simp [go_sem]
  have c2 : (w.alloc (.cells #[.int .i64 f.years, .int .i64 f.gap, .slice pa f.n pc] 69)).cell? ⟨w.heap.size, 2, none⟩ = some (.slice pa f.n pc) := by simp [go_sem]
  have hv2 := hv.below (hb0.mono hB)
  obtain ⟨pb, po, cap, e, s0, -, -⟩ := pap_cells hv2 hi
  simp only [Value.slice.injEq, true_and] at e
  obtain ⟨rfl, rfl⟩ := e
  obtain ⟨j, hj⟩ : ∃ j, i = j + 1 := ⟨i - 1, by omega⟩
  obtain ⟨pb2, po2, cap2, e, u0, -, -⟩ := pap_cells hv2 (k := j) (by omega)
  simp only [Value.slice.injEq, Option.some.injEq, Addr.mk.injEq, and_true] at e
  obtain ⟨⟨rfl, rfl⟩, -, rfl⟩ := e
  obtain ⟨s, hs⟩ : ∃ s, s = (f.at i).s := ⟨_, rfl⟩
  obtain ⟨u, hu⟩ : ∃ s, s = (f.at j).s := ⟨_, rfl⟩
  rw [← hs] at s0
  rw [← hu] at u0
  obtain ⟨d, hd⟩ : ∃ d, d = y - a := ⟨_, rfl⟩
  have ew1 : IntKind.i64.wrap ((i : Int) - 1) = (j : Int) := by rw [hj]; rw [IntWalk.i64_in _ (by have := h.n; omega)]; omega
  have ew2 : IntKind.i64.wrap (y - a) = d := by rw [hd]; exact IntWalk.i64_in _ (by omega)
  have HG : Hid (goesB f i y a = (decide (s = u) && decide (d ≤ f.gap))) := Lib.hid (by
    unfold goesB
    rw [show i - 1 = j by omega, ← hs, ← hu, ← hd, decide_eq_true hi0, Bool.true_and])
  obtain ⟨g, hg⟩ : ∃ g, g = f.gap := ⟨_, rfl⟩
  rw [← hg] at HG c1
  have hin : (i : Int) < f.n := by omega
  have hjn : (j : Int) < f.n := by omega
  have hi0' : (0 : Int) < i := by omega
  have t0 : decide (0 < i) = true := decide_eq_true hi0
  have HHG := Lib.hid hg
  clear hb0 hv hv2 hj hs hu hd hg h hy ha hi0 hB
  rw [HG.out]
  clear HG
  go_enter Try.func163, Try.ntmps163
  rw [HHG.out] at c1
  generalize hW : w.alloc (.cells #[.int .i64 f.years, .int .i64 f.gap, .slice (some ⟨pb, po, none⟩) f.n pc] 69) = w1 at HB0 c1 c2 s0 u0
  rw [← HHG.out] at c1
  by_cases h1 : s = u
  · have t1 : (s == u) = true := by rw [beq_iff_eq]; exact h1
    have HS : Hid (decide (s = u) = true) := Lib.hid (decide_eq_true h1)
    clear h1
    by_cases h2 : d ≤ g
    · have t2 : decide (d ≤ g) = true := decide_eq_true h2
      clear h2
      go_wp2_with fail
      go_quiet (fail)
      go_wp2
      go_ret
      exact ⟨by rw [HS.out, t2]; rfl, below_drewN HB0.out _⟩
    · have t2 : decide (d ≤ g) = false := decide_eq_false h2
      clear h2
      go_wp2_with fail
      go_quiet (fail)
      go_wp2
      go_ret
      exact ⟨by rw [HS.out, t2]; rfl, below_drewN HB0.out _⟩
  · have t1 : (s == u) = false := by rw [beq_eq_false_iff_ne]; exact h1
    have HS : Hid (decide (s = u) = false) := Lib.hid (decide_eq_false h1)
    clear h1
    go_wp2_with fail
    go_quiet (fail)
    go_wp2
    go_ret
    exact ⟨by rw [HS.out]; rfl, below_drewN HB0.out _⟩
end Go.Proofs.Ytiacgaplhndlnaa
/-
  chains of package silence.
-/
namespace Go.Proofs.Ytiacgaplhndlnaa
open Go.RowKit Go.Shelf
open Lim

attribute [local go_sem] Oper.semAt_some

theorem Try.infoSpan2 : (Try.prog.info? 46).map (fun i => (i.zero, i.size, i.bytes)) = some (some (.agg #[.int .i64 0, .int .i64 0]), 2, 16) := by kernel_rfl
theorem cell_two_newS (w : World) (x y : Value) (t : TypeId) : ∀ j u, [x, y][j]? = some u → (w.alloc (.cells #[x, y] t)).cell? ((⟨w.heap.size, 0, none⟩ : Addr).add j) = some u := by
  intro j u hj
  match j, hj with
  | 0, hj => simp at hj; subst hj; rw [Addr.add_lit]; simp [go_sem]
  | 1, hj => simp at hj; subst hj; rw [Addr.add_lit]; simp [go_sem]
  | n + 2, hj => simp at hj
def rwP (v : Value) (l : List (Int × Int)) : Row := ⟨46, 2, v, l.length, spans l⟩
theorem spans_snocP (l : List (Int × Int)) (a b : Int) : spans (l ++ [(a, b)]) = spans l ++ [.int .i64 a, .int .i64 b] := by simp [spans]
theorem spans_endAt {l : List (Int × Int)} (i : Int) (h : 0 < l.length) : spans (endAt i l) = (spans l).set ((l.length - 1) * 2 + 1) (.int .i64 i) := by
  rcases List.eq_nil_or_concat l with e | ⟨l', d, e⟩
  · rw [e] at h; exact absurd h (Nat.lt_irrefl _)
  · rw [e, List.concat_eq_append, endAt_snoc, spans_snocP, show (l' ++ [d]) = l' ++ [(d.1, d.2)] from rfl, spans_snocP]
    have hl : (l' ++ [(d.1, d.2)]).length - 1 = l'.length := by simp
    rw [hl, List.set_append_right _ _ (by rw [spans_length]; omega), spans_length, show l'.length * 2 + 1 - l'.length * 2 = 1 by omega]
    rfl
/-- a chain of its own begins -/
def AppAns (w : World) (S q4 : Nat) (i : Int) (l : List (Int × Int)) (e : Ending) (w' : World) : Prop :=
  e = .returned (.tuple #[]) ∧ ∃ v', Mem w S [] [rwP v' (l ++ [(i, i)])] [(q4, .cells #[v'] 44 (0, 0))] w'
set_option maxRecDepth 20000 in
set_option maxHeartbeats 2000000 in
theorem begin_any {w0 w : World} {S q4 : Nat} {i : Int} {v : Value} {l : List (Int × Int)} (hl : l.length ≤ 100) (H : Mem w0 S [] [rwP v l] [(q4, .cells #[v] 44 (0, 0))] w) :
    Calls Try.prog 164 #[.int .i64 i, .pointer (some ⟨q4, 0, none⟩)] w fun e w' => AppAns w0 S q4 i l e w' := by
  have HH := Lib.hid H
  obtain ⟨va, vc, ev⟩ : ∃ a cap, v = .slice a l.length cap := row_form (r := rwP v l) (H.q _ (List.mem_singleton.2 rfl))
  subst ev
  have b0 : w.cell? ⟨q4, 0, none⟩ = some (.slice va l.length vc) := by
    have h1 := (H.x _ (List.mem_singleton.2 rfl)).2
    simp [World.cell?, h1]
  have HMA : Hid (Mem w0 S [] [rwP (.slice va l.length vc) l] [(q4, .cells #[.slice va l.length vc] 44 (0, 0))] (w.alloc (.cells #[.int .i64 i, .int .i64 i] 46))) := Lib.hid (H.grow ((Below.refl _ w).alloc (Nat.le_refl _) _))
  have HOW : Hid ((w.alloc (.cells #[.int .i64 i, .int .i64 i] 46)).ownsRow S 46 2 (.slice va l.length vc) l.length (spans l)) := Lib.hid (HMA.out.q (rwP (.slice va l.length vc) l) (List.mem_singleton.2 rfl))
  obtain ⟨i1, hi1, hy0, hy1, hy2⟩ := info_parts Try.infoSpan2
  have HI1 := Lib.hid (And.intro hi1 (And.intro hy0 (And.intro hy1 hy2)))
  clear hi1 hy0 hy1 hy2 H
  go_enter Try.func164, Try.ntmps164
  go_wp2_with (at_builtin; refine wpList_append_own_at _ rfl _ _ 44 rfl S 46 i1 (.agg #[.int .i64 0, .int .i64 0]) 2 16 Try.underlying44 HI1.out.1 HI1.out.2.1 HI1.out.2.2.1 HI1.out.2.2.2 rfl (by decide) _ _ _ rfl HOW.out ⟨w.heap.size, 0, none⟩ 1 1 [.int .i64 i, .int .i64 i] rfl rfl (cell_two_newS _ _ _ _) (by simp [Value.oneCell']) (by unfold maxLen; omega) (by omega) HMA.out.o ?_; intro v' w8 hown8 hgrow _ hat; have HM8 : Hid (Mem w0 S [] [rwP v' (l ++ [(i, i)])] [(q4, .cells #[.slice va l.length vc] 44 (0, 0))] w8) := Lib.hid (HMA.out.putQ (Q1 := []) (r' := rwP v' (l ++ [(i, i)])) hgrow (by { show w8.ownsRow S 46 2 v' (l ++ [(i, i)]).length (spans (l ++ [(i, i)])); rw [spans_snocP, List.length_append]; exact hown8 }) (hat.imp id fun h => ⟨_, h, Nat.le_refl _⟩)); obtain ⟨g8, k8, e8⟩ : ∃ g cap, v' = .slice (some ⟨g, 0, none⟩) (l ++ [(i, i)]).length cap := form_pos (r := rwP v' (l ++ [(i, i)])) (HM8.out.q _ (List.mem_singleton.2 rfl)) (by { show 0 < (l ++ [(i, i)]).length; simp }); subst e8; have b1 : w8.cell? ⟨q4, 0, none⟩ = some (.slice va l.length vc) := (by { have h1 := (HM8.out.x _ (List.mem_singleton.2 rfl)).2; simp [World.cell?, h1] }); have b2 : w8.frozen? ⟨q4, 0, none⟩ = false := (by { have h1 := (HM8.out.x _ (List.mem_singleton.2 rfl)).2; simp [World.frozen?, h1] }); clear hown8 hgrow hat)
  refine bodyPost_end (results_none rfl _ _ _) rfl ?_
  have h := HM8.out.putX (X1 := []) 0 (.slice (some ⟨g8, 0, none⟩) (l.length + 1) k8)
  have e : (l ++ [(i, i)]).length = l.length + 1 := by simp
  refine ⟨rfl, .slice (some ⟨g8, 0, none⟩) (l.length + 1) k8, ?_⟩
  rw [e] at h
  exact h
set_option maxRecDepth 20000 in
set_option maxHeartbeats 4000000 in
theorem chains_any {B b pc : Nat} {pa : Option Addr} {tv : Value} {f : Fil11} {T : List Int} {w : World} (h : f.Ok) (hT : f.Is T) (hd : SiD B b pc pa tv f T w) :
    Calls Try.prog 147 #[.pointer (some ⟨b, 0, none⟩)] w fun e w' => ∃ v, e = .returned v ∧ w'.ownsRow w.heap.size 46 2 v (chainsTo f T f.n).length (spans (chainsTo f T f.n)) ∧ Below w.heap.size w w' := by
  have HF := Lib.hid (And.intro h hT)
  have HD := Lib.hid hd
  have hn16 : f.n ≤ 16 := h.n
  have hn16' : (f.n : Int) ≤ 16 := by omega
  have hTl : T.length = f.n := hT.1
  have d0 := hd.c0
  have d1 := hd.c1
  have d2 := hd.c2
  have d3 := hd.c3
  obtain ⟨ta, tc, etv⟩ : ∃ a c, tv = .slice a T.length c := by
    obtain ⟨a, c, e, -⟩ := hd.t
    exact ⟨a, c, e⟩
  subst etv
  have H0 : Hid (Mem w w.heap.size [] [rwP (.slice none 0 0) (chainsTo f T 0)] [(w.heap.size, .cells #[.slice none 0 0] 44 (0, 0))] (w.alloc (.cells #[.slice none 0 0] 44))) := Lib.hid (((Mem.rowsR (Below.refl _ w) (Nat.le_refl _) (fun _ h => absurd h List.not_mem_nil)).lay (.cells #[.slice none 0 0] 44 (0, 0))).nilQ 46 2)
  have hb0 := (Below.refl _ w).alloc (Nat.le_refl _) (.cells #[.slice none 0 0] 44)
  replace d3 := hb0.on d3
  rw [hTl] at d3
  clear h hT hd hb0
  go_enter Try.func147, Try.ntmps147
  go_upto_region 4 with (fail)
  obtain ⟨q4, hq4⟩ : ∃ q, q = w.heap.size := ⟨_, rfl⟩
  rw [← hq4] at H0 ⊢
  have HQ4 := Lib.hid hq4
  generalize w.alloc (.cells #[.slice none 0 0] 44) = w1 at H0 d3 ⊢
  clear hq4 d0 d1 d2
  go_wp2_with fail
  clear d3
  go_loopw [19] (fun iv W => ∃ (i : Nat) (v : Value), i ≤ f.n ∧ iv = .int .i64 i ∧ Hid (Mem w q4 [] [rwP v (chainsTo f T i)] [(q4, .cells #[v] 44 (0, 0))] W)) (fun iv _ => f.n - (intOf iv).toNat)
  case atStart => exact ⟨0, _, Nat.zero_le _, rfl, H0⟩
  case round =>
    clear H0
    obtain ⟨i, v, hi, rfl, hI⟩ := hrel
    have HB : Hid (Below w.heap.size w wr) := Lib.hid (by rw [← HQ4.out]; exact hI.out.b)
    have HCT := Lib.hid (chainsTo_ok f T i)
    obtain ⟨va, vc, ev⟩ : ∃ a cap, v = .slice a (chainsTo f T i).length cap := row_form (r := rwP v (chainsTo f T i)) (hI.out.q _ (List.mem_singleton.2 rfl))
    subst ev
    by_cases hlt : i < f.n
    · have hlt' : (i : Int) < f.n := by omega
      have HD1 := Lib.hid (HD.out.on HB.out)
      obtain ⟨gt, ot, eta, t0⟩ := cell_of_RS (p := i) HD1.out.t (by rw [hTl]; exact hlt)
      subst eta
      obtain ⟨y, hy⟩ : ∃ y, y = T.getD i 0 := ⟨_, rfl⟩
      rw [← hy] at t0
      have hyr : 0 ≤ y ∧ y ≤ 3000 := by
        have h1 := HF.out.2.2 i hlt
        have h2 := HF.out.1.lo i hlt
        have h3 := HF.out.1.hi i hlt
        omega
      have HLN : Hid ((chainsTo f T i).length ≤ 100) := Lib.hid (by have := HCT.out.2.1; omega)
      by_cases h0 : i = 0
      · have t1 : decide (0 < i) = false := by simp; omega
        have HE : Hid (chainsTo f T (i + 1) = chainsTo f T i ++ [((i : Int), (i : Int))]) := Lib.hid (by rw [chainsTo, if_neg (fun h => by omega)])
        have CB := Lib.hid (begin_any (i := (i : Int)) HLN.out hI.out)
        clear h0 hy hyr
        go_wp2_with fail
        refine CB.out.mono ?_
        rintro e w4 ⟨rfl, v4, hM4⟩
        have HM4 : Hid (Mem w q4 [] [rwP v4 (chainsTo f T (i + 1))] [(q4, .cells #[v4] 44 (0, 0))] w4) := Lib.hid (by rw [HE.out]; exact hM4)
        clear CB hM4
        go_wp2_with fail
        go_roundw
        case rel => exact ⟨i + 1, _, by omega, by go_num, HM4⟩
        case measure => simp [intOf]; omega
      · have t1 : decide (0 < i) = true := by simp; omega
        have h0' : (0 : Int) < i := by omega
        obtain ⟨j, hj⟩ : ∃ j, i = j + 1 := ⟨i - 1, by omega⟩
        have ew1 : IntKind.i64.wrap ((i : Int) - 1) = (j : Int) := by rw [IntWalk.i64_in _ (by omega)]; omega
        have hj' : (j : Int) < f.n := by omega
        obtain ⟨gt2, ot2, eta, t2⟩ := cell_of_RS (p := j) HD1.out.t (by rw [hTl]; omega)
        simp only [Option.some.injEq, Addr.mk.injEq, and_true] at eta
        obtain ⟨rfl, rfl⟩ := eta
        obtain ⟨a, ha⟩ : ∃ y, y = T.getD j 0 := ⟨_, rfl⟩
        rw [← ha] at t2
        have har : 0 ≤ a ∧ a ≤ 3000 := by
          have h1 := HF.out.2.2 j (by omega)
          have h2 := HF.out.1.lo j (by omega)
          have h3 := HF.out.1.hi j (by omega)
          omega
        have CG := Lib.hid (goes_any (y := y) (a := a) HF.out.1 (by omega : 0 < i) hlt HD1.out.B HD1.out.p hyr har)
        have HE : Hid (chainsTo f T (i + 1) = if goesB f i y a = true then endAt i (chainsTo f T i) else chainsTo f T i ++ [((i : Int), (i : Int))]) := Lib.hid (by
          rw [chainsTo, ← hy, show i - 1 = j by omega, ← ha]
          by_cases hg : goesB f i y a = true
          · rw [if_pos ⟨by omega, hg⟩, if_pos hg]
          · rw [if_neg (fun h => hg h.2), if_neg hg])
        have d3 := HD1.out.c3
        rw [hTl] at d3
        have HIJ : Hid (0 < i) := Lib.hid (by omega)
        clear h0 hj hy ha hyr har
        go_wp2_with fail
        refine CG.out.mono ?_
        rintro e w3 ⟨rfl, hb⟩
        have hI2 := Lib.hid (hI.out.grow hb)
        clear hI CG t0 t2 d3 ew1 HD1 HB
        obtain ⟨z, hz⟩ : ∃ z, z = goesB f i y a := ⟨_, rfl⟩
        rw [← hz] at HE ⊢
        clear hz hb
        cases z with
        | false =>
          replace HE : Hid (chainsTo f T (i + 1) = chainsTo f T i ++ [((i : Int), (i : Int))]) := Lib.hid HE.out
          have CB := Lib.hid (begin_any (i := (i : Int)) HLN.out hI2.out)
          go_wp2_with fail
          refine CB.out.mono ?_
          rintro e w4 ⟨rfl, v4, hM4⟩
          have HM4 : Hid (Mem w q4 [] [rwP v4 (chainsTo f T (i + 1))] [(q4, .cells #[v4] 44 (0, 0))] w4) := Lib.hid (by rw [HE.out]; exact hM4)
          clear CB hM4
          go_wp2_with fail
          go_roundw
          case rel => exact ⟨i + 1, _, by omega, by go_num, HM4⟩
          case measure => simp [intOf]; omega
        | true =>
          replace HE : Hid (chainsTo f T (i + 1) = endAt i (chainsTo f T i)) := Lib.hid HE.out
          have hpos := HCT.out.2.2 HIJ.out
          obtain ⟨g, cap, ev⟩ : ∃ g cap, Value.slice va (chainsTo f T i).length vc = .slice (some ⟨g, 0, none⟩) (chainsTo f T i).length cap := form_pos (r := rwP (.slice va (chainsTo f T i).length vc) (chainsTo f T i)) (hI2.out.q _ (List.mem_singleton.2 rfl)) hpos
          simp only [Value.slice.injEq, true_and] at ev
          obtain ⟨rfl, rfl⟩ := ev
          obtain ⟨m, hm⟩ : ∃ m, (chainsTo f T i).length = m + 1 := ⟨(chainsTo f T i).length - 1, by omega⟩
          have HLM := Lib.hid hm
          obtain ⟨ln, hln⟩ : ∃ ln, ln = (chainsTo f T i).length := ⟨_, rfl⟩
          have HLL := Lib.hid hln
          have ew2 : IntKind.i64.wrap ((ln : Int) - 1) = (m : Int) := by rw [IntWalk.i64_in _ (by have := HLN.out; omega)]; omega
          have hml : (m : Int) < ln := by omega
          have b0 : w3.cell? ⟨q4, 0, none⟩ = some (.slice (some ⟨g, 0, none⟩) ln vc) := by
            have h1 := (hI2.out.x _ (List.mem_singleton.2 rfl)).2
            rw [hln]
            simp [World.cell?, h1]
          obtain ⟨cv, hcv⟩ : ∃ cv, (spans (chainsTo f T i))[m * 2 + 1]? = some cv := ⟨_, List.getElem?_eq_getElem (by rw [spans_length]; omega)⟩
          have c0 : w3.cell? ⟨g, m * 2 + 1, none⟩ = some cv := row_cell (r := rwP (.slice (some ⟨g, 0, none⟩) (chainsTo f T i).length vc) (chainsTo f T i)) (hI2.out.q _ (List.mem_singleton.2 rfl)) rfl hcv
          have c1 : w3.frozen? ⟨g, m * 2 + 1, none⟩ = false := row_frz (r := rwP (.slice (some ⟨g, 0, none⟩) (chainsTo f T i).length vc) (chainsTo f T i)) (hI2.out.q _ (List.mem_singleton.2 rfl)) rfl _
          have HM4 : Hid (Mem w q4 [] [rwP (.slice (some ⟨g, 0, none⟩) ln vc) (chainsTo f T (i + 1))] [(q4, .cells #[.slice (some ⟨g, 0, none⟩) ln vc] 44 (0, 0))] (w3.setCell ⟨g, m * 2 + 1, none⟩ (.int .i64 i))) := Lib.hid (by
            rw [HE.out, hln]
            refine hI2.out.putQ (Q1 := []) (r' := rwP (.slice (some ⟨g, 0, none⟩) (chainsTo f T i).length vc) (endAt i (chainsTo f T i))) (grown_set (d := g) w3 (grown_refl w3 _) _ _) ?_ (.inl rfl)
            have h1 := World.ownsRow.stored (hI2.out.q (rwP (.slice (some ⟨g, 0, none⟩) (chainsTo f T i).length vc) (chainsTo f T i)) (List.mem_singleton.2 rfl)) (m * 2 + 1) (.int .i64 i)
            show World.ownsRow _ _ _ _ _ (endAt i (chainsTo f T i)).length (spans (endAt i (chainsTo f T i)))
            rw [spans_endAt _ hpos, endAt_len, show (chainsTo f T i).length - 1 = m by omega]
            exact h1.1)
          clear hm hpos hln hcv hI2 t1 h0'
          go_wp2_with fail
          go_roundw
          case rel => exact ⟨i + 1, _, by omega, by go_num, HM4⟩
          case measure => simp [intOf]; omega
    · have HIN : Hid (i = f.n) := Lib.hid (by omega)
      have hlt' : ¬ (i : Int) < f.n := by omega
      have b0 : wr.cell? ⟨q4, 0, none⟩ = some (.slice va (chainsTo f T i).length vc) := by
        have h1 := (hI.out.x _ (List.mem_singleton.2 rfl)).2
        simp [World.cell?, h1]
      go_wp2_with fail
      go_ret
      exact ⟨_, rfl, by rw [← HIN.out, ← HQ4.out]; exact hI.out.q (rwP (.slice va (chainsTo f T i).length vc) (chainsTo f T i)) (List.mem_singleton.2 rfl), HB.out⟩
end Go.Proofs.Ytiacgaplhndlnaa
