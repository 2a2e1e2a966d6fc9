/-
  Parts of the proof, in the order in which they build: SiJ.
-/
import Derived.Test.YtiacgaplhndlnaaF27
set_option linter.unusedVariables false
set_option linter.unusedSimpArgs false
namespace Go.Proofs.Ytiacgaplhndlnaa
open Go.RowKit Go.Shelf
open Lim

attribute [local go_sem] Oper.semAt_some

theorem Try.infoPaper : (Try.prog.info? 82).map (fun i => (i.zero, i.size, i.bytes)) = some (some (.agg #[.int .i64 0, .int .i64 0, .int .i64 0]), 3, 24) := by kernel_rfl
theorem cell_three_new (w : World) (x y z : Value) (t : TypeId) : ∀ j u, [x, y, z][j]? = some u → (w.alloc (.cells #[x, y, z] t)).cell? ((⟨w.heap.size, 0, none⟩ : Addr).add j) = some u := by
  intro j u hj
  match j, hj with
  | 0, hj => simp at hj; subst hj; rw [Addr.add_lit]; simp [go_sem]
  | 1, hj => simp at hj; subst hj; rw [Addr.add_lit]; simp [go_sem]
  | 2, hj => simp at hj; subst hj; rw [Addr.add_lit]; simp [go_sem]
  | n + 3, hj => simp at hj
def rwA (v : Value) (P : List Pap) : Row := ⟨82, 3, v, P.length, paps P⟩
def papAt (P : List Pap) (k : Nat) : Pap := P.getD k ⟨0, 0, 0⟩
/-- k papers of a file, and the year that comes next -/
structure PartOk (P : List Pap) (year : Int) (k : Nat) : Prop where
  n : P.length = k
  y : 0 ≤ year ∧ year ≤ 49 + 17 * k
  s : ∀ j, j < k → (papAt P j).s = 0 ∨ (papAt P j).s = 1
  lo : ∀ j, j < k → 0 ≤ (papAt P j).lo
  hi : ∀ j, j < k → (papAt P j).lo ≤ (papAt P j).hi ∧ (papAt P j).hi < year ∧ (papAt P j).hi ≤ (papAt P j).lo + 3
  up : ∀ j, j + 1 < k → (papAt P j).hi < (papAt P (j + 1)).lo
theorem papAt_snoc {P : List Pap} {p : Pap} {k : Nat} (hn : P.length = k) (j : Nat) (hj : j < k + 1) : papAt (P ++ [p]) j = if j = k then p else papAt P j := by
  unfold papAt
  by_cases e : j = k
  · subst e; rw [if_pos rfl, ← hn]; simp
  · rw [if_neg e, List.getD_eq_getElem?_getD, List.getD_eq_getElem?_getD, List.getElem?_append_left (by omega)]
theorem PartOk.snoc {P : List Pap} {year : Int} {k : Nat} (h : PartOk P year k) {s x b : Int} (hs : s = 0 ∨ s = 1) (hx : 0 ≤ x ∧ x ≤ 3) (hb : 1 ≤ b ∧ b ≤ 14) : PartOk (P ++ [⟨s, year, year + x⟩]) (year + x + b) (k + 1) := by
  have e := fun j hj => papAt_snoc (p := ⟨s, year, year + x⟩) h.n j hj
  have hy := h.y
  refine ⟨by simp [h.n], by omega, fun j hj => ?_, fun j hj => ?_, fun j hj => ?_, fun j hj => ?_⟩
  · rw [e j hj]; split
    · exact hs
    · exact h.s j (by omega)
  · rw [e j hj]; split
    · exact hy.1
    · exact h.lo j (by omega)
  · rw [e j hj]; split
    · dsimp only; omega
    · have := h.hi j (by omega); omega
  · rw [e j (by omega), e (j + 1) hj, if_neg (by omega)]
    split
    · have := (h.hi j (by omega)).2.1; dsimp only; exact this
    · exact h.up j (by omega)
theorem PartOk.ok {P : List Pap} {year ys gp : Int} {k : Nat} (h : PartOk P year k) (hk : k ≤ 8) (hy : 5 ≤ ys ∧ ys ≤ 60) (hg : 4 ≤ gp ∧ gp ≤ 20) : (Fil11.mk ys gp P).Ok := by
  have hn : (Fil11.mk ys gp P).n = k := h.n
  have hyr := h.y
  refine ⟨by dsimp only; omega, by dsimp only; omega, by omega, fun j hj => h.s j (by omega), fun j hj => ?_, fun j hj => ?_, fun j hj => h.up j (by omega)⟩
  · have h1 := h.lo j (by omega)
    have h2 := h.hi j (by omega)
    show 0 ≤ (papAt P j).lo ∧ (papAt P j).lo ≤ 3000
    omega
  · have h2 := h.hi j (by omega)
    show (papAt P j).lo ≤ (papAt P j).hi ∧ (papAt P j).hi ≤ 3000 ∧ (papAt P j).hi ≤ (papAt P j).lo + 3
    omega
/-- what Made answers -/
def MadeAns11 (cv : Value) (dl : List Int) (N d c : Nat) (w : World) (e : Ending) (w' : World) : Prop :=
  ∃ (f : Fil11) (pv : Value), e = .returned (.agg #[.int .i64 f.years, .int .i64 f.gap, pv]) ∧ f.Ok ∧ f.n ≤ N ∧ w'.ownsRow w.heap.size 82 3 pv f.n (paps f.P) ∧ DeckF cv dl w' d (c + 40) ∧ Sep (fun k => k = d) w w'
set_option maxRecDepth 20000 in
set_option maxHeartbeats 8000000 in
theorem made11_any {cv : Value} {dl : List Int} {N d c : Nat} {w : World} (hN : N ≤ 8) (hdk : DeckF cv dl w d c) (hc : c < 100000) :
    Calls Try.prog 22 #[.pointer (some ⟨d, 0, none⟩), .int .i64 N, .int .i64 4] w fun e w' => MadeAns11 cv dl N d c w e w' := by
  have H0 : Hid (DkM cv dl w d c [] [(w.heap.size, .cells #[.int .i64 0, .int .i64 0, .slice none 0 0] 69 (0, 0))] (w.alloc (.cells #[.int .i64 0, .int .i64 0, .slice none 0 0] 69))) := Lib.hid ((DkM.start hdk).lay (.cells #[.int .i64 0, .int .i64 0, .slice none 0 0] 69 (0, 0)))
  have CB := Lib.hid (deckF_between (a := 5) (b := 60) H0.out.dk (by omega) (by omega) (by omega) (by omega))
  obtain ⟨i1, hi1, hy0, hy1, hy2⟩ := info_parts Try.infoPaper
  have HI1 := Lib.hid (And.intro hi1 (And.intro hy0 (And.intro hy1 hy2)))
  clear hi1 hy0 hy1 hy2 hdk
  go_enter Try.func22, Try.ntmps22
  generalize hW : w.alloc (.cells #[.int .i64 0, .int .i64 0, .slice none 0 0] 69) = w1 at H0 CB
  go_wp2_with fail
  refine CB.out.mono ?_
  rintro e w2 ⟨ys, rfl, hys, hdl⟩
  have HM2 := Lib.hid (H0.out.dealt hdl)
  have HYS := Lib.hid hys
  clear hdl hys CB H0 hW
  have CB := Lib.hid (deckF_between (a := 4) (b := 20) HM2.out.dk (by omega) (by omega) (by omega) (by omega))
  go_wp2_with fail
  refine CB.out.mono ?_
  rintro e w3 ⟨gp, rfl, hgp, hdl⟩
  have HM3 := Lib.hid ((HM2.out.dealt hdl).nilQ 82 3)
  have HGP := Lib.hid hgp
  clear hdl hgp CB HM2
  go_upto_region 2 with (fail)
  have HM4 := Lib.hid (HM3.out.lay (.cells #[.int .i64 ys, .int .i64 gp, .slice none 0 0] 69 (0, 0)))
  obtain ⟨q7, hq7⟩ : ∃ q, q = w3.heap.size := ⟨_, rfl⟩
  rw [← hq7] at HM4 ⊢
  generalize w3.alloc (.cells #[.int .i64 ys, .int .i64 gp, .slice none 0 0] 69) = w4 at HM4 ⊢
  clear hq7 HM3
  have CB := Lib.hid (deckF_draw (n := 50) HM4.out.dk (by omega))
  go_wp2_with fail
  refine CB.out.mono ?_
  rintro e w5 ⟨yr, rfl, hyr, hdl⟩
  have HM5 := Lib.hid (HM4.out.dealt hdl)
  have HYR : Hid (0 ≤ yr ∧ yr ≤ 49) := Lib.hid (by have h1 := hyr.2.1; have h2 := hyr.2.2 (by omega); omega)
  clear hdl hyr CB HM4
  have CB := Lib.hid (deckF_draw (n := 2) HM5.out.dk (by omega))
  go_wp2_with fail
  refine CB.out.mono ?_
  rintro e w6 ⟨sd, rfl, hsd, hdl⟩
  have HM6 := Lib.hid (HM5.out.dealt hdl)
  have HSD : Hid (sd = 0 ∨ sd = 1) := Lib.hid (by have h1 := hsd.2.1; have h2 := hsd.2.2 (by omega); omega)
  clear hdl hsd CB HM5
  have ew : IntKind.i64.wrap ((N : Int) + 1) = (N : Int) + 1 := IntWalk.i64_in _ (by omega)
  have CB := Lib.hid (deckF_draw (n := (N : Int) + 1) HM6.out.dk (by omega))
  go_wp2_with fail
  refine CB.out.mono ?_
  rintro e w7 ⟨t0, rfl, ht0, hdl⟩
  obtain ⟨t, rfl⟩ : ∃ t : Nat, t0 = t := ⟨t0.toNat, by omega⟩
  have ht : t ≤ N := by
    by_cases e : N = 0
    · have := ht0.1 (by omega); omega
    · have := ht0.2.2 (by omega); omega
  have HM7 : Hid (DkM cv dl w d (c + 5 + 3 * 0) [rwA (.slice none 0 0) []] [(q7, .cells #[.int .i64 ys, .int .i64 gp, .slice none 0 0] 69 (0, 0)), (w.heap.size, .cells #[.int .i64 0, .int .i64 0, .slice none 0 0] 69 (0, 0))] w7) := Lib.hid (HM6.out.dealt hdl)
  clear hdl ht0 CB HM6 ew
  go_wp2_with fail
  go_loopw [8, 9, 24] (fun yv sv iv W => ∃ (i : Nat) (P : List Pap) (year side : Int) (pv : Value), i ≤ t ∧ iv = .int .i64 i ∧ yv = .int .i64 year ∧ sv = .int .i64 side ∧ Hid (side = 0 ∨ side = 1) ∧ Hid (DkM cv dl w d (c + 5 + 3 * i) [rwA pv P] [(q7, .cells #[.int .i64 ys, .int .i64 gp, pv] 69 (0, 0)), (w.heap.size, .cells #[.int .i64 0, .int .i64 0, .slice none 0 0] 69 (0, 0))] W ∧ PartOk P year i)) (fun _ _ iv _ => t - (intOf iv).toNat)
  case atStart => exact ⟨0, [], yr, sd, _, Nat.zero_le _, rfl, rfl, rfl, HSD, Lib.hid ⟨HM7.out, ⟨rfl, by have := HYR.out; omega, fun j hj => by omega, fun j hj => by omega, fun j hj => by omega, fun j hj => by omega⟩⟩⟩
  case round =>
    clear HM7 HSD
    obtain ⟨i, P, year, side, pv, hi, rfl, rfl, rfl, HS, hI⟩ := hrel
    obtain ⟨va, vc, ev⟩ : ∃ a cap, pv = .slice a P.length cap := row_form (r := rwA pv P) (hI.out.1.me.q _ (List.mem_singleton.2 rfl))
    subst ev
    have HPO := Lib.hid hI.out.2
    have hPl : P.length ≤ 8 := by have := HPO.out.n; omega
    have hyr : 0 ≤ year ∧ year ≤ 300 := by have := HPO.out.y; omega
    by_cases hlt : i < t
    · have hlt' : (i : Int) < t := by omega
      have CB := Lib.hid (deckF_coin (n := 6) hI.out.1.dk (by omega))
      go_wp2_with fail
      refine CB.out.mono ?_
      rintro e w8 ⟨z, rfl, hdl⟩
      have HM8 := Lib.hid (hI.out.1.dealt hdl)
      clear hdl CB hI
      go_upto_if 27 with (fail)
      go_cut [9] from 27 to 29 (fun sv wc => ∃ s' : Int, sv = .int .i64 s' ∧ Hid (s' = 0 ∨ s' = 1) ∧ wc = w8)
      case first =>
        have hs := HS.out
        have HSS : Hid (1 - side = 0 ∨ 1 - side = 1) := Lib.hid (by omega)
        cases z with
        | false =>
          clear hs
          go_wp2
          go_meet
          case rel => exact ⟨side, rfl, HS, rfl⟩
        | true =>
          have hs2 : 0 ≤ side ∧ side ≤ 1 := by omega
          clear hs
          go_wp2
          go_meet
          case rel => exact ⟨1 - side, rfl, HSS, rfl⟩
      case rest =>
        obtain ⟨s', rfl, HS', rfl⟩ := hcut
        clear HS
        go_upto_region 8 with (fail)
        have HM9 := Lib.hid (HM8.out.lay (.cells #[.int .i64 s', .int .i64 year, .int .i64 0] 82 (0, 0)))
        obtain ⟨qp, hqp⟩ : ∃ q, q = wc.heap.size := ⟨_, rfl⟩
        rw [← hqp] at HM9 ⊢
        generalize wc.alloc (.cells #[.int .i64 s', .int .i64 year, .int .i64 0] 82 (0, 0)) = w9 at HM9 ⊢
        clear hqp HM8
        have CB := Lib.hid (deckF_draw (n := 4) HM9.out.dk (by omega))
        go_wp2_with fail
        refine CB.out.mono ?_
        rintro e w10 ⟨x, rfl, hx, hdl⟩
        have HMA := Lib.hid (HM9.out.dealt hdl)
        have hxx : 0 ≤ x ∧ x ≤ 3 := by have h1 := hx.2.1; have h2 := hx.2.2 (by omega); omega
        clear hdl hx CB HM9
        have c2 : w10.cell? ⟨qp, 2, none⟩ = some (.int .i64 0) := by { have h1 := (HMA.out.me.x _ List.mem_cons_self).2; simp [World.cell?, h1] }
        have f2 : w10.frozen? ⟨qp, 2, none⟩ = false := by { have h1 := (HMA.out.me.x _ List.mem_cons_self).2; simp [World.frozen?, h1] }
        go_upto_region 9 with (fail)
        have HMB : Hid (DkM cv dl w d (c + 5 + 3 * i + 1 + 1) [rwA (.slice va P.length vc) P] ((qp, .cells #[.int .i64 s', .int .i64 year, .int .i64 (year + x)] 82 (0, 0)) :: [(q7, .cells #[.int .i64 ys, .int .i64 gp, .slice va P.length vc] 69 (0, 0)), (w.heap.size, .cells #[.int .i64 0, .int .i64 0, .slice none 0 0] 69 (0, 0))]) (w10.setCell ⟨qp, 2, none⟩ (.int .i64 (year + x)))) := Lib.hid (HMA.out.putX (X1 := []) 2 _)
        generalize w10.setCell ⟨qp, 2, none⟩ (.int .i64 (year + x)) = w11 at HMB ⊢
        clear c2 f2 HMA
        have a0 : w11.cell? ⟨qp, 0, none⟩ = some (.int .i64 s') := by { have h1 := (HMB.out.me.x _ List.mem_cons_self).2; simp [World.cell?, h1] }
        have a1 : w11.cell? ⟨qp, 1, none⟩ = some (.int .i64 year) := by { have h1 := (HMB.out.me.x _ List.mem_cons_self).2; simp [World.cell?, h1] }
        have a2 : w11.cell? ⟨qp, 2, none⟩ = some (.int .i64 (year + x)) := by { have h1 := (HMB.out.me.x _ List.mem_cons_self).2; simp [World.cell?, h1] }
        have b2 : w11.cell? ⟨q7, 2, none⟩ = some (.slice va P.length vc) := by { have h1 := (HMB.out.me.x _ (List.mem_cons_of_mem _ List.mem_cons_self)).2; simp [World.cell?, h1] }
        have HMC := Lib.hid (HMB.out.below ((Below.refl _ w11).alloc (Nat.le_refl _) (.cells #[.int .i64 s', .int .i64 year, .int .i64 (year + x)] 82)))
        have HOX : Hid ((w11.alloc (.cells #[.int .i64 s', .int .i64 year, .int .i64 (year + x)] 82)).ownsRow w.heap.size 82 3 (.slice va P.length vc) P.length (paps P)) := Lib.hid (HMC.out.me.q (rwA (.slice va P.length vc) P) (List.mem_singleton.2 rfl))
        have key : ∀ (v' : Value) (w12 : World), w12.ownsRow w.heap.size 82 3 v' (P.length + 1) (paps P ++ [.int .i64 s', .int .i64 year, .int .i64 (year + x)]) → (w11.alloc (.cells #[.int .i64 s', .int .i64 year, .int .i64 (year + x)] 82)).grownBy w12 (Value.ownBlock (.slice va P.length vc)) → (v'.ownBlock = Value.ownBlock (.slice va P.length vc) ∨ v'.ownBlock = some (w11.alloc (.cells #[.int .i64 s', .int .i64 year, .int .i64 (year + x)] 82)).heap.size) → DkM cv dl w d (c + 5 + 3 * i + 1 + 1) [rwA v' (P ++ [⟨s', year, year + x⟩])] ((qp, .cells #[.int .i64 s', .int .i64 year, .int .i64 (year + x)] 82 (0, 0)) :: [(q7, .cells #[.int .i64 ys, .int .i64 gp, .slice va P.length vc] 69 (0, 0)), (w.heap.size, .cells #[.int .i64 0, .int .i64 0, .slice none 0 0] 69 (0, 0))]) w12 := by
          intro v' w12 hown8 hgrow hat
          exact HMC.out.putQ (Q1 := []) (r' := rwA v' (P ++ [⟨s', year, year + x⟩])) hgrow (by { show w12.ownsRow w.heap.size 82 3 v' (P ++ [(⟨s', year, year + x⟩ : Pap)]).length (paps (P ++ [⟨s', year, year + x⟩])); rw [paps_snoc, List.length_append]; exact hown8 }) (hat.imp id fun h => ⟨_, h, Nat.le_refl _⟩)
        have key2 : ∀ (v' : Value) (w12 : World), DkM cv dl w d (c + 5 + 3 * i + 1 + 1) [rwA v' (P ++ [⟨s', year, year + x⟩])] ((qp, .cells #[.int .i64 s', .int .i64 year, .int .i64 (year + x)] 82 (0, 0)) :: [(q7, .cells #[.int .i64 ys, .int .i64 gp, .slice va P.length vc] 69 (0, 0)), (w.heap.size, .cells #[.int .i64 0, .int .i64 0, .slice none 0 0] 69 (0, 0))]) w12 → ∃ g cap, v' = .slice (some ⟨g, 0, none⟩) (P.length + 1) cap := by
          intro v' w12 hm
          obtain ⟨g, cap, h⟩ := form_pos (r := rwA v' (P ++ [⟨s', year, year + x⟩])) (hm.me.q _ List.mem_cons_self) (by { show 0 < (P ++ [(⟨s', year, year + x⟩ : Pap)]).length; rw [List.length_append]; simp })
          refine ⟨g, cap, h.trans ?_⟩
          show Value.slice _ (P ++ [(⟨s', year, year + x⟩ : Pap)]).length cap = _
          rw [List.length_append]; rfl
        go_upto_region 10 with (at_builtin; refine wpList_append_own_at _ rfl _ _ 67 rfl w.heap.size 82 i1 (.agg #[.int .i64 0, .int .i64 0, .int .i64 0]) 3 24 Try.underlying67 HI1.out.1 HI1.out.2.1 HI1.out.2.2.1 HI1.out.2.2.2 rfl (by decide) _ _ _ rfl HOX.out ⟨w11.heap.size, 0, none⟩ 1 1 [.int .i64 s', .int .i64 year, .int .i64 (year + x)] rfl rfl (cell_three_new _ _ _ _ _) (by simp [Value.oneCell']) (by unfold maxLen; omega) (by omega) HMC.out.me.o ?_; intro v' w12 hown8 hgrow _ hat; have HMD : Hid (DkM cv dl w d (c + 5 + 3 * i + 1 + 1) [rwA v' (P ++ [⟨s', year, year + x⟩])] ((qp, .cells #[.int .i64 s', .int .i64 year, .int .i64 (year + x)] 82 (0, 0)) :: [(q7, .cells #[.int .i64 ys, .int .i64 gp, .slice va P.length vc] 69 (0, 0)), (w.heap.size, .cells #[.int .i64 0, .int .i64 0, .slice none 0 0] 69 (0, 0))]) w12) := Lib.hid (key v' w12 hown8 hgrow hat); obtain ⟨g8, k8, e8⟩ : ∃ g cap, v' = .slice (some ⟨g, 0, none⟩) (P.length + 1) cap := key2 v' w12 HMD.out; subst e8; have d2 : w12.cell? ⟨q7, 2, none⟩ = some (.slice va P.length vc) := (by { have h1 := (HMD.out.me.x _ (List.mem_cons_of_mem _ List.mem_cons_self)).2; simp [World.cell?, h1] }); have f2 : w12.frozen? ⟨q7, 2, none⟩ = false := (by { have h1 := (HMD.out.me.x _ (List.mem_cons_of_mem _ List.mem_cons_self)).2; simp [World.frozen?, h1] }); clear hown8 hgrow hat)
        have HME : Hid (DkM cv dl w d (c + 5 + 3 * i + 1 + 1) [rwA (.slice (some ⟨g8, 0, none⟩) (P.length + 1) k8) (P ++ [⟨s', year, year + x⟩])] ((qp, .cells #[.int .i64 s', .int .i64 year, .int .i64 (year + x)] 82 (0, 0)) :: [(q7, .cells #[.int .i64 ys, .int .i64 gp, .slice (some ⟨g8, 0, none⟩) (P.length + 1) k8] 69 (0, 0)), (w.heap.size, .cells #[.int .i64 0, .int .i64 0, .slice none 0 0] 69 (0, 0))]) (w12.setCell ⟨q7, 2, none⟩ (.slice (some ⟨g8, 0, none⟩) (P.length + 1) k8))) := Lib.hid (HMD.out.putX (X1 := [_]) 2 _)
        generalize w12.setCell ⟨q7, 2, none⟩ (.slice (some ⟨g8, 0, none⟩) (P.length + 1) k8) = w13 at HME ⊢
        clear d2 f2 HMD a0 a1 a2 b2 key key2 HOX HMC HMB
        have HMF := Lib.hid (HME.out.below ((Below.refl _ w13).drew))
        have CB2 := Lib.hid (deckF_between (a := 1) (b := 14) HMF.out.dk (by omega) (by omega) (by omega) (by omega))
        have hC : (fun W => W.cell? ⟨qp, 2, none⟩ = some (.int .i64 (year + x))) w13.drew := by { have h1 := (HMF.out.me.x _ List.mem_cons_self).2; simp [World.cell?, h1] }
        refine Lim.regC' (fun W => W.cell? ⟨qp, 2, none⟩ = some (.int .i64 (year + x))) [] #[false, false, false, false, false, false, false] (by kernel_rfl) rfl ?_
        refine Lim.stepR 0 (fun _ => trivial) rfl (by kernel_rfl) (fun _ _ _ _ h => h) hC rfl ?_; apply Exists.intro; refine ⟨?_, ?_⟩
        · rintro w r1; go_simp; try with_reducible rfl
        simp only [Act.put, List.setIfInBounds_toArray, List.set_cons_succ, List.set_cons_zero]
        refine Lim.stepR 1 (fun _ => trivial) rfl (by kernel_rfl) (fun _ _ _ _ h => h) hC rfl ?_; apply Exists.intro; refine ⟨?_, ?_⟩
        · rintro w r1; go_simp; try with_reducible rfl
        simp only [Act.put, List.setIfInBounds_toArray, List.set_cons_succ, List.set_cons_zero]
        refine Lim.stepR 2 (fun _ => trivial) rfl (by kernel_rfl) (fun _ _ _ _ h => h) hC rfl ?_; apply Exists.intro; refine ⟨?_, ?_⟩
        · rintro w r1; go_simp; try with_reducible rfl
        simp only [Act.put, List.setIfInBounds_toArray, List.set_cons_succ, List.set_cons_zero]
        refine Lim.stepR 3 (fun _ => trivial) rfl (by kernel_rfl) (fun _ _ _ _ h => h) hC rfl ?_; apply Exists.intro; refine ⟨?_, ?_⟩
        · rintro w r1; go_simp; try with_reducible rfl
        simp only [Act.put, List.setIfInBounds_toArray, List.set_cons_succ, List.set_cons_zero]
        refine Lim.stepE 4 (fun _ => trivial) rfl (by kernel_rfl) rfl (fun K hK => ?_)   -- E call
        go_simp
        refine ⟨rfl, (callsIn_wide.2 CB2.out).mono ?_⟩
        rintro e w14 ⟨b, rfl, hb, hdl⟩
        have HMH := Lib.hid (HMF.out.dealt hdl)
        have hC4 : (fun W => W.cell? ⟨qp, 2, none⟩ = some (.int .i64 (year + x))) w14 := by { have h1 := (HMH.out.me.x _ List.mem_cons_self).2; simp [World.cell?, h1] }
        have HB := Lib.hid hb
        have eb : IntKind.i64.wrap (year + x + b) = year + x + b := IntWalk.i64_in _ (by omega)
        refine hK _ _ hC4 ?_
        clear hb hdl
        simp only [Act.put, List.setIfInBounds_toArray, List.set_cons_succ, List.set_cons_zero]
        refine Lim.stepR 5 (fun _ => trivial) rfl (by kernel_rfl) (fun _ _ _ _ h => h) hC4 rfl ?_; apply Exists.intro; refine ⟨?_, ?_⟩
        · rintro w r1; go_simp; try with_reducible rfl
        simp only [Act.put, List.setIfInBounds_toArray, List.set_cons_succ, List.set_cons_zero]
        refine Lim.stepR 6 (fun _ => trivial) rfl (by kernel_rfl) (fun _ _ _ _ h => h) hC4 rfl ?_; apply Exists.intro; refine ⟨?_, ?_⟩
        · rintro w r1; go_simp; try with_reducible rfl
        simp only [Act.put, List.setIfInBounds_toArray, List.set_cons_succ, List.set_cons_zero]
        refine Lim.stepD (by kernel_rfl) ?_
        go_wp2_with fail
        go_roundw
        case rel => exact ⟨i + 1, P ++ [⟨s', year, year + x⟩], year + x + b, s', _, by omega, by go_num, rfl, rfl, HS', Lib.hid ⟨(HMH.out.less (List.Sublist.refl _) (List.sublist_cons_self _ _)).more (by omega), HPO.out.snoc HS'.out hxx HB.out⟩⟩
        case measure => simp [intOf]; omega
    · have HIN : Hid (i = t) := Lib.hid (by omega)
      have hlt' : ¬ (i : Int) < t := by omega
      have a0 : wr.cell? ⟨q7, 0, none⟩ = some (.int .i64 ys) := by { have h1 := (hI.out.1.me.x _ List.mem_cons_self).2; simp [World.cell?, h1] }
      have a1 : wr.cell? ⟨q7, 1, none⟩ = some (.int .i64 gp) := by { have h1 := (hI.out.1.me.x _ List.mem_cons_self).2; simp [World.cell?, h1] }
      have a2 : wr.cell? ⟨q7, 2, none⟩ = some (.slice va P.length vc) := by { have h1 := (hI.out.1.me.x _ List.mem_cons_self).2; simp [World.cell?, h1] }
      have b0 : wr.cell? ⟨w.heap.size, 0, none⟩ = some (.int .i64 0) := by { have h1 := (hI.out.1.me.x _ (List.mem_cons_of_mem _ List.mem_cons_self)).2; simp [World.cell?, h1] }
      have b1 : wr.cell? ⟨w.heap.size, 1, none⟩ = some (.int .i64 0) := by { have h1 := (hI.out.1.me.x _ (List.mem_cons_of_mem _ List.mem_cons_self)).2; simp [World.cell?, h1] }
      have b2 : wr.cell? ⟨w.heap.size, 2, none⟩ = some (.slice none 0 0) := by { have h1 := (hI.out.1.me.x _ (List.mem_cons_of_mem _ List.mem_cons_self)).2; simp [World.cell?, h1] }
      have f0 : wr.frozen? ⟨w.heap.size, 0, none⟩ = false := by { have h1 := (hI.out.1.me.x _ (List.mem_cons_of_mem _ List.mem_cons_self)).2; simp [World.frozen?, h1] }
      have f1 : wr.frozen? ⟨w.heap.size, 1, none⟩ = false := by { have h1 := (hI.out.1.me.x _ (List.mem_cons_of_mem _ List.mem_cons_self)).2; simp [World.frozen?, h1] }
      have f2 : wr.frozen? ⟨w.heap.size, 2, none⟩ = false := by { have h1 := (hI.out.1.me.x _ (List.mem_cons_of_mem _ List.mem_cons_self)).2; simp [World.frozen?, h1] }
      have hX : Hid (DkM cv dl w d (c + 5 + 3 * i) [rwA (.slice va P.length vc) P] [(q7, .cells #[.int .i64 ys, .int .i64 gp, .slice va P.length vc] 69 (0, 0)), (w.heap.size, .cells #[.int .i64 ys, .int .i64 gp, .slice va P.length vc] 69 (0, 0))] (((wr.setCell ⟨w.heap.size, 0, none⟩ (.int .i64 ys)).setCell ⟨w.heap.size, 1, none⟩ (.int .i64 gp)).setCell ⟨w.heap.size, 2, none⟩ (.slice va P.length vc))) := Lib.hid (((hI.out.1.putX (X1 := [_]) 0 (.int .i64 ys)).putX (X1 := [_]) 1 (.int .i64 gp)).putX (X1 := [_]) 2 (.slice va P.length vc))
      go_wp2_with fail
      generalize ((wr.setCell ⟨w.heap.size, 0, none⟩ (.int .i64 ys)).setCell ⟨w.heap.size, 1, none⟩ (.int .i64 gp)).setCell ⟨w.heap.size, 2, none⟩ (.slice va P.length vc) = wf at hX ⊢
      have hheap : wf.heap[w.heap.size]? = some (.cells #[.int .i64 ys, .int .i64 gp, .slice va P.length vc] 69 (0, 0)) := (hX.out.me.x _ (List.mem_cons_of_mem _ List.mem_cons_self)).2
      have hok := PartOk.ok (ys := ys) (gp := gp) HPO.out (by omega) HYS.out HGP.out
      have hn : (Fil11.mk ys gp P).n = i := HPO.out.n
      exact bodyPost_ret (results_cell_row rfl _ _ w.heap.size _ _ (0, 0) _ (by rfl) hheap Try.underlying69 (by rfl) (by kernel_rfl)) rfl ⟨⟨ys, gp, P⟩, _, rfl, hok, by omega, hX.out.me.q (rwA (.slice va P.length vc) P) (List.mem_singleton.2 rfl), (hX.out.more (by omega)).dk, hX.out.b⟩
end Go.Proofs.Ytiacgaplhndlnaa
