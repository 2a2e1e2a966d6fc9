/-
  Parts of the proof, in the order in which they build: RtB.
-/
import Derived.Test.YtobmhamdkngehaaA34
import Derived.Test.YtobmhamdkngehaaD34
import Derived.Test.YtobmhamdkngehaaA22
import Derived.Test.YtobmhamdkngehaaB19
set_option linter.unusedVariables false
set_option linter.unusedSimpArgs false
namespace Go.Proofs.Ytobmhamdkngehaa
open Go.RowKit Go.Shelf
open Lim

/-- lists of numbers that are only read, of which each has its place -/
def RowsS (W : World) (v : Value) (Ls : List (List Nat)) : Prop :=
  ∃ a c, v = .slice a Ls.length c ∧ (Ls ≠ [] → ∃ b o, a = some ⟨b, o, none⟩ ∧ b < W.heap.size ∧ ∀ (k : Nat) (l : List Nat), Ls[k]? = some l → ∃ bx ox cx, W.cell? ⟨b, o + k, none⟩ = some (.slice (some ⟨bx, ox, none⟩) l.length cx) ∧ bx < W.heap.size ∧ ∀ (j : Nat) (u : Value), (ints (l.map Int.ofNat))[j]? = some u → W.cell? ⟨bx, ox + j, none⟩ = some u)
theorem RowsS.below {W W' : World} {v : Value} {Ls : List (List Nat)} (h : RowsS W v Ls) (hb : Below W.heap.size W W') : RowsS W' v Ls := by
  obtain ⟨a, c, rfl, h⟩ := h
  refine ⟨a, c, rfl, fun hne => ?_⟩
  obtain ⟨b, o, rfl, hlt, h2⟩ := h hne
  refine ⟨b, o, rfl, Nat.lt_of_lt_of_le hlt hb.size, fun k l hk => ?_⟩
  obtain ⟨bx, ox, cx, h3, h4, h5⟩ := h2 k l hk
  exact ⟨bx, ox, cx, hb.on h3, Nat.lt_of_lt_of_le h4 hb.size, fun j u hj => hb.on (h5 j u hj)⟩
/-- the lists as rows of numbers -/
def asI (Ls : List (List Nat)) : List (List Int) := Ls.map fun l => l.map Int.ofNat
theorem RowsS.rows {W : World} {v : Value} {Ls : List (List Nat)} (h : RowsS W v Ls) : RowsR W v (asI Ls) := by
  obtain ⟨a, c, rfl, h⟩ := h
  refine ⟨a, c, by rw [asI, List.length_map], fun hne => ?_⟩
  obtain ⟨b, o, rfl, hlt, h2⟩ := h (fun e => hne (by rw [e]; rfl))
  refine ⟨b, o, rfl, hlt, fun k l hk => ?_⟩
  rw [asI, List.getElem?_map] at hk
  obtain ⟨l0, hk0, rfl⟩ := Option.map_eq_some_iff.1 hk
  obtain ⟨bx, ox, cx, h3, h4, h5⟩ := h2 k l0 hk0
  exact ⟨_, h3, _, _, by rw [List.length_map], fun _ => ⟨bx, ox, rfl, h4, h5⟩⟩
theorem RowsS.of_rows {S : Nat} {W : World} {v : Value} {Ls : List (List Nat)} (h : RowsI S W v (asI Ls)) (hne : ∀ l ∈ Ls, l ≠ []) : RowsS W v Ls := by
  obtain ⟨vs, h1, h2⟩ := h
  obtain ⟨a, c, rfl, h3⟩ := RS.of_owns h1
  have hl : (asI Ls).length = Ls.length := by rw [asI, List.length_map]
  refine ⟨a, c, by rw [hl], fun hn => ?_⟩
  have hvl : vs.length = Ls.length := by have := h1.1; rw [hl] at this; omega
  obtain ⟨b, o, rfl, hlt, h4⟩ := h3 (fun e => hn (List.eq_nil_of_length_eq_zero (by rw [← hvl, e]; rfl)))
  refine ⟨b, o, rfl, hlt, fun k l hk => ?_⟩
  have hk2 : (asI Ls)[k]? = some (l.map Int.ofNat) := by rw [asI, List.getElem?_map, hk]; rfl
  obtain ⟨x, h5, h6⟩ := h2 k _ hk2
  obtain ⟨ax, cx, rfl, h7⟩ := RS.of_owns h6
  obtain ⟨bx, ox, rfl, h8, h9⟩ := h7 (nats_ne (hne l (List.mem_of_getElem? hk)))
  have h10 := h4 k _ h5
  rw [List.length_map] at h10
  exact ⟨bx, ox, cx, h10, h8, h9⟩
/-- the lists of k + 1 stones, as far as they are made: of the first i lists, and of list i up to b -/
def lng (d : Rd) (k i b : Nat) : List (List Nat) := ((rdl d k).take i).flatMap (fun l => extTo d k l (d.r.length + 1)) ++ extTo d k ((rdl d k).getD i []) b
theorem lng_next (d : Rd) {k i : Nat} (h : i < (rdl d k).length) : lng d k i (d.r.length + 1) = lng d k (i + 1) 0 := by
  have e : (rdl d k).getD i [] = (rdl d k)[i] := by rw [List.getD_eq_getElem?_getD, List.getElem?_eq_getElem h]; rfl
  have e0 : extTo d k ((rdl d k).getD (i + 1) []) 0 = [] := rfl
  unfold lng
  rw [e0, List.append_nil, e, List.take_succ_eq_append_getElem h, List.flatMap_append, List.flatMap_cons, List.flatMap_nil, List.append_nil]
theorem lng_all (d : Rd) (k : Nat) : lng d k (rdl d k).length 0 = rdl d (k + 1) := by
  have e0 : extTo d k ((rdl d k).getD (rdl d k).length []) 0 = [] := rfl
  unfold lng
  rw [e0, List.append_nil, List.take_length]
  rfl
theorem lng_yes (d : Rd) {k i b : Nat} (h : nextB d k ((rdl d k).getD i []) b = true) : lng d k i (b + 1) = lng d k i b ++ [(rdl d k).getD i [] ++ [b]] := by
  unfold lng
  rw [extTo_succ, if_pos h, List.append_assoc]
theorem lng_no (d : Rd) {k i b : Nat} (h : nextB d k ((rdl d k).getD i []) b = false) : lng d k i (b + 1) = lng d k i b := by
  unfold lng
  rw [extTo_succ, if_neg (by rw [h]; decide)]
theorem lng_low (d : Rd) {k i : Nat} (hk : 0 < k) : ∀ b, b ≤ ((rdl d k).getD i []).getD (k - 1) 0 + 1 → lng d k i b = lng d k i 0
  | 0, _ => rfl
  | b + 1, h => by
    rw [lng_no d (by unfold nextB; rw [decide_eq_false (by omega), decide_eq_false (show ¬ ((rdl d k).getD i []).getD (k - 1) 0 < b by omega)]; simp), lng_low d hk b (by omega)]
theorem ext_len (d : Rd) (k : Nat) (l : List Nat) {b b' : Nat} (h : b ≤ b') : (extTo d k l b).length ≤ (extTo d k l b').length := by
  induction b' with
  | zero => rw [Nat.le_zero.1 h]; exact Nat.le_refl _
  | succ n ih =>
    by_cases e : b = n + 1
    · rw [e]; exact Nat.le_refl _
    · refine Nat.le_trans (ih (by omega)) ?_
      rw [extTo_succ]
      split
      · rw [List.length_append]; exact Nat.le_add_right _ _
      · exact Nat.le_refl _
theorem lng_bound (d : Rd) {k i b : Nat} (hi : i < (rdl d k).length) (hb : b ≤ d.r.length + 1) (hr : d.r.length ≤ 8) : (lng d k i b).length ≤ 512 := by
  have h1 : (lng d k i b).length ≤ (lng d k i (d.r.length + 1)).length := by
    unfold lng
    rw [List.length_append, List.length_append]
    exact Nat.add_le_add_left (ext_len d k _ hb) _
  have h2 : (lng d k i (d.r.length + 1)).length ≤ (rdl d (k + 1)).length := by
    rw [lng_next d hi]
    have e0 : extTo d k ((rdl d k).getD (i + 1) []) 0 = [] := rfl
    unfold lng
    rw [e0, List.append_nil]
    show _ ≤ ((rdl d k).flatMap _).length
    conv => rhs; rw [← List.take_append_drop (i + 1) (rdl d k), List.flatMap_append, List.length_append]
    exact Nat.le_add_right _ _
  have h3 := rdl_bound d (k + 1)
  have h4 : 2 ^ (d.r.length + 1) ≤ 2 ^ 9 := Nat.pow_le_pow_right (by omega) (by omega)
  have h5 : (2 : Nat) ^ 9 = 512 := rfl
  omega
theorem asI_len (Ls : List (List Nat)) : (asI Ls).length = Ls.length := by rw [asI, List.length_map]
set_option maxRecDepth 200000 in
set_option maxHeartbeats 8000000 in
theorem rlists_any {B : Nat} {d : Rd} {rv fv mv : Value} {w : World} (hB : B ≤ w.heap.size) (hr : RS B w rv d.r.length (spans d.r)) (hf : RS B w fv d.f.length (spans d.f)) (hm : RS B w mv d.m.length (ints d.m)) (hsp : SpOk d.r) (hr8 : d.r.length ≤ 8) (hm5 : d.m.length ≤ 5) (hfm : d.m.length ≤ d.f.length + 1) (hmn : ∀ x ∈ d.m, -1 ≤ x) :
    Calls Try.prog 71 #[rv, fv, mv] w fun e w' => ∃ v, e = .returned v ∧ RowsS w' v (rdl d d.m.length) ∧ Below w.heap.size w w' := by
  have HRV := Lib.hid hr
  obtain ⟨ra, rc, rfl, -⟩ := hr
  obtain ⟨fa, fc, rfl, hfc⟩ := hf
  obtain ⟨ma, mc, rfl, hmc⟩ := hm
  obtain ⟨rl, hrl⟩ : ∃ x, x = d.r.length := ⟨_, rfl⟩
  obtain ⟨fl, hfl⟩ : ∃ x, x = d.f.length := ⟨_, rfl⟩
  obtain ⟨ml, hml⟩ : ∃ x, x = d.m.length := ⟨_, rfl⟩
  have HFI : Hid (∀ (a b : Nat) (g1 g2 : Int) W, Below w.heap.size w W → a ≤ b → b ≤ rl → Calls Try.prog 101 #[.slice ra rl rc, .int .i64 (a : Int), .int .i64 (b : Int), .agg #[.int .i64 g1, .int .i64 g2]] W fun e w' => e = .returned (.bool (fitsB d.r a b (g1, g2))) ∧ Below W.heap.size W w') := Lib.hid fun a b g1 g2 W hW h1 h2 => by
    rw [hrl]
    exact rfits_any (Nat.le_trans hB hW.size) (HRV.out.below (hW.mono hB)) (by omega) hsp h1 (by omega)
  rw [← hrl, ← hfl, ← hml]
  have HN : Hid (rl = d.r.length ∧ rl ≤ 8 ∧ ml ≤ 5 ∧ ml ≤ fl + 1 ∧ fl = d.f.length ∧ ml = d.m.length ∧ B ≤ w.heap.size) := Lib.hid ⟨hrl, by omega, by omega, by omega, hfl, hml, hB⟩
  have r8 : rl ≤ 8 := by omega
  have m5 : ml ≤ 5 := by omega
  have f1 : ml ≤ fl + 1 := by omega
  have HFC := Lib.hid hfc
  have HMC0 := Lib.hid hmc
  have HMN : Hid (∀ k, k < ml → -1 ≤ d.m.getD k 0) := Lib.hid (fun k hk => by
    have hk2 : k < d.m.length := by omega
    rw [List.getD_eq_getElem?_getD, List.getElem?_eq_getElem hk2]
    exact hmn _ (List.getElem_mem hk2))
  have HMD : Hid (∀ k, k < ml → d.m.getD k (-1) = d.m.getD k 0) := Lib.hid (fun k hk => by
    have hk2 : k < d.m.length := by omega
    rw [List.getD_eq_getElem?_getD, List.getD_eq_getElem?_getD, List.getElem?_eq_getElem hk2]; rfl)
  obtain ⟨i1, hi1, hz10, hz11, hz12⟩ := info_parts infoRow
  have HIR := Lib.hid (And.intro hi1 (And.intro hz10 (And.intro hz11 hz12)))
  obtain ⟨i0, hi0, hz0, hz1, hz2⟩ := info_parts Try.infoInt
  have HI := Lib.hid (And.intro hi0 (And.intro hz0 (And.intro hz1 hz2)))
  have HM : Hid (Below w.heap.size w ((w.alloc (.cells #[] 3)).alloc (.cells #[.slice (some ⟨w.heap.size, 0, none⟩) 0 0] 22)) ∧ RowsS ((w.alloc (.cells #[] 3)).alloc (.cells #[.slice (some ⟨w.heap.size, 0, none⟩) 0 0] 22)) (.slice (some ⟨w.heap.size + 1, 0, none⟩) 1 1) [[]]) := Lib.hid ⟨((Below.refl _ w).alloc (Nat.le_refl _) _).alloc (by simp) _, _, _, rfl, fun _ => ⟨_, _, rfl, by simp, fun k l hk => by
    match k with
    | 0 =>
      cases hk
      exact ⟨w.heap.size, 0, 0, by simp [go_sem], by simp; omega, fun j u hu => by simp [ints] at hu⟩
    | k + 1 => cases hk⟩⟩
  clear hfc hmc hrl hfl hml hB hsp hr8 hm5 hfm hmn hi1 hz10 hz11 hz12 hi0 hz0 hz1 hz2
  go_enter Try.func71, Try.ntmps71
  go_upto_region 2 with (fail)
  generalize (w.alloc (.cells #[] 3)).alloc (.cells #[.slice (some ⟨w.heap.size, 0, none⟩) 0 0] 22) = w2 at HM ⊢
  obtain ⟨sv, hsv⟩ : ∃ s, s = w.heap.size + 1 := ⟨_, rfl⟩
  rw [← hsv] at HM
  simp only [← hsv]
  have HB2 := Lib.hid HM.out.1
  have HR2 := Lib.hid HM.out.2
  clear hsv HM
  go_wp2_with fail
  go_loopw [7, 8] (fun v7 kv W => ∃ k : Nat, k ≤ ml ∧ kv = .int .i64 (k : Int) ∧ Hid (Below w.heap.size w W) ∧ Hid (RowsS W v7 (rdl d k))) (fun _ kv _ => ml - (intOf kv).toNat)
  case atStart => exact ⟨0, Nat.zero_le _, rfl, HB2, HR2⟩
  case round =>
    obtain ⟨k, hk, rfl, hbk, hrw⟩ := hrel
    obtain ⟨wk, rfl⟩ : ∃ x, x = wr := ⟨_, rfl⟩
    have k64 : k < 100 := by omega
    by_cases hlt : k < ml
    · obtain ⟨a7, c7, rfl, h7⟩ := hrw.out
      have H7 := Lib.hid h7
      obtain ⟨n7, hn7⟩ : ∃ x, x = (rdl d k).length := ⟨_, rfl⟩
      have HN7 := Lib.hid hn7
      have n512 : n7 ≤ 512 := by
        have h3 := rdl_bound d k
        have h4 : 2 ^ (d.r.length + 1) ≤ 2 ^ 9 := Nat.pow_le_pow_right (by omega) (by have := HN.out.1; omega)
        have h5 : (2 : Nat) ^ 9 = 512 := rfl
        omega
      rw [← hn7]
      clear hn7 h7
      go_wp2_with fail
      go_loopw [9, 10] (fun v9 iv W => ∃ i : Nat, i ≤ n7 ∧ iv = .int .i64 (i : Int) ∧ Hid (Below wk.heap.size wk W) ∧ Hid (RowsI wk.heap.size W v9 (asI (lng d k i 0)))) (fun _ iv _ => n7 - (intOf iv).toNat)
      case atStart => exact ⟨0, Nat.zero_le _, rfl, Lib.hid (Below.refl _ _), Lib.hid ⟨[], World.ownsRow_nil _ _ _ _, fun k l hk => by cases hk⟩⟩
      case round =>
        obtain ⟨i, hi, rfl, hbm, hr9⟩ := hrel
        obtain ⟨wm, rfl⟩ : ∃ x, x = wr := ⟨_, rfl⟩
        have i64 : i < 1000 := by omega
        by_cases hin : i < n7
        · have hil : i < (rdl d k).length := by rw [← HN7.out]; exact hin
          obtain ⟨l, hl⟩ : ∃ l, l = (rdl d k)[i] := ⟨_, rfl⟩
          have hmem : l ∈ rdl d k := by rw [hl]; exact List.getElem_mem hil
          have hl2 : (rdl d k)[i]? = some l := by rw [hl]; exact List.getElem?_eq_getElem hil
          have hl3 : l = (rdl d k).getD i [] := by rw [List.getD_eq_getElem?_getD, hl2]; rfl
          have hlen := rdl_len hmem
          obtain ⟨b7, o7, rfl, hb7, h7⟩ := H7.out (fun e => by rw [e] at hil; simp at hil)
          obtain ⟨bx, ox, cx, h8, h9, h10⟩ := h7 i l hl2
          rw [hlen.1] at h8
          have HX : Hid ((∀ W, Below wk.heap.size wk W → W.cell? ⟨b7, o7 + i, none⟩ = some (.slice (some ⟨bx, ox, none⟩) k cx)) ∧ (∀ W, Below wk.heap.size wk W → ∀ (j : Nat) (u : Value), (ints (l.map Int.ofNat))[j]? = some u → W.cell? ⟨bx, ox + j, none⟩ = some u)) := Lib.hid ⟨fun W hW => hW.on h8, fun W hW j u hj => hW.on (h10 j u hj)⟩
          have HLK : Hid (l.length = k ∧ l = (rdl d k).getD i [] ∧ i < (rdl d k).length ∧ ∀ x ∈ l, x ≤ rl) := Lib.hid ⟨hlen.1, hl3, hil, by rw [HN.out.1]; exact hlen.2⟩
          obtain ⟨mb, mo, rfl, hmb, hms⟩ := HMC0.out (ints_ne (by have := HN.out.2.2.2.2.2.1; omega))
          have HMC : Hid (∀ W, Below w.heap.size w W → ∀ k, k < ml → W.cell? ⟨mb, mo + k, none⟩ = some (.int .i64 (d.m.getD k 0))) := Lib.hid (fun W hW k hk => by
            have h1 := hms k _ (ints_at' d.m k (by have := HN.out.2.2.2.2.2.1; omega))
            rw [← List.getD_eq_getElem?_getD] at h1
            rw [hW.cell (p := ⟨mb, mo + k, none⟩) (Nat.lt_of_lt_of_le hmb HN.out.2.2.2.2.2.2), h1])
          clear hil hl hmem hl2 hl3 hlen hb7 h7 h8 h9 h10 hmb hms
          by_cases hk0 : k = 0
          · have HNB : Hid (∀ b, nextB d k l b = canB d k b) := Lib.hid (fun b => by unfold nextB; rw [decide_eq_true hk0]; simp)
            have dk : decide (0 < k) = false := decide_eq_false (by omega)
            have dk' : decide ((0 : Int) < (k : Int)) = false := decide_eq_false (by omega)
            have HK0 := Lib.hid hk0
            clear hk0
            go_wp2_with fail
            go_loopw [9, 12] (fun v9 bv W => ∃ b : Nat, 0 ≤ b ∧ b ≤ rl + 1 ∧ bv = .int .i64 (b : Int) ∧ Hid (Below wk.heap.size wk W) ∧ Hid (RowsI wk.heap.size W v9 (asI (lng d k i b)))) (fun _ bv _ => rl + 1 - (intOf bv).toNat)
            case atStart => exact ⟨0, Nat.le_refl _, by omega, by go_num, hbm, hr9⟩
            case round =>
              obtain ⟨b, hb1, hb2, rfl, hby, hr9⟩ := hrel
              have HBW : Hid (Below w.heap.size w wr) := Lib.hid (hbk.out.trans (hby.out.mono hbk.out.size))
              have b64 : b < 100 := by omega
              obtain ⟨n9, hn9⟩ : ∃ x, x = (asI (lng d k i b)).length := ⟨_, rfl⟩
              have h512 : n9 ≤ 512 := by
                rw [hn9, asI_len]
                exact lng_bound d (by have := HLK.out.2.2.1; omega) (by have := HN.out.1; omega) (by have := HN.out.1; omega)
              obtain ⟨a9, c9, rfl, -⟩ : ∃ a c, u9 = .slice a n9 c ∧ True := by
                obtain ⟨vs, h1, -⟩ := hr9.out
                obtain ⟨a, c, e, -⟩ := RS.of_owns h1
                exact ⟨a, c, by rw [hn9]; exact e, trivial⟩
              have HR9 := hr9
              have HN9 : Hid ((asI (lng d k i b)).length = n9) := Lib.hid hn9.symm
              have d5 : decide (n9 < 5000) = true := decide_eq_true (by omega)
              have d5' : decide ((n9 : Int) < 5000) = true := decide_eq_true (by omega)
              clear hn9 hr9
              by_cases hb : b ≤ rl
              · have db : decide (b ≤ rl) = true := decide_eq_true hb
                have db' : decide ((b : Int) ≤ (rl : Int)) = true := decide_eq_true (by omega)
                obtain ⟨y, hy⟩ : ∃ y, y = d.m.getD k 0 := ⟨_, rfl⟩
                have cy : wr.cell? ⟨mb, mo + k, none⟩ = some (.int .i64 y) := by rw [hy]; exact HMC.out wr HBW.out k (by omega)
                have hym : -1 ≤ y := by rw [hy]; exact HMN.out k (by omega)
                have HCB : Hid (canB d k b = (decide (y = -1) || decide (y = (b : Int)))) := Lib.hid (by
                  unfold canB
                  rw [hy]
                  rw [show d.m.getD k (-1) = d.m.getD k 0 from HMD.out k (by omega)])
                clear hy
                by_cases hy1 : y = -1
                · have hcan : canB d k b = true := by rw [HCB.out, decide_eq_true hy1]; rfl
                  have dy : decide (0 ≤ y) = false := decide_eq_false (by omega)
                  clear hy1
                  go_wp2_with fail
                  go_quiet (fail)
                  have HBZ : Hid (Below wk.heap.size wk (wr.drewN nq)) := Lib.hid (below_drewN hby.out nq)
                  have HRZ : Hid (RowsI wk.heap.size (wr.drewN nq) (.slice a9 n9 c9) (asI (lng d k i b))) := Lib.hid (HR9.out.below (below_drewN (Below.refl wr.heap.size wr) nq))
                  clear cy HR9 hby
                  generalize wr.drewN nq = wz at HBZ HRZ ⊢
                  have HNX : Hid (nextB d k l b = true) := Lib.hid (by rw [HNB.out b]; exact hcan)
                  have HAk : Hid (Below wz.heap.size wz (wz.alloc (.cells #[] 3))) := Lib.hid ((Below.refl _ wz).alloc (Nat.le_refl _) _)
                  obtain ⟨vs9, hv9, hx9⟩ := HRZ.out
                  rw [HN9.out] at hv9
                  have HV9 := Lib.hid (And.intro hv9 hx9)
                  have cxi : (wz.alloc (.cells #[] 3)).cell? ⟨b7, o7 + i, none⟩ = some (.slice (some ⟨bx, ox, none⟩) (k) cx) := HAk.out.on (HX.out.1 wz HBZ.out)
                  have HCC : Hid (∀ (j : Nat) (u : Value), (ints (l.map Int.ofNat))[j]? = some u → (wz.alloc (.cells #[] 3)).cell? ((⟨bx, ox, none⟩ : Addr).add j) = some u) := Lib.hid (fun j u hj => by rw [addr_add]; exact HAk.out.on (HX.out.2 wz HBZ.out j u hj))
                  clear hv9 hx9
                  go_wp2_with (at_builtin; first
                    | (refine wpList_append_own _ rfl _ _ 22 rfl wz.heap.size 3 i0 (.int .i64 0) 1 8 Try.underlying22 HI.out.1 HI.out.2.1 HI.out.2.2.1 HI.out.2.2.2 rfl (by decide) (.slice (some ⟨wz.heap.size, 0, none⟩) 0 0) 0 [] rfl (owns_empty wz (Nat.le_refl _) _) ⟨bx, ox, none⟩ (k) cx (ints (l.map Int.ofNat)) rfl (by have := HLK.out.1; simp [ints]; omega) HCC.out (ints_one _) (by unfold maxLen; omega) (by omega) (by simp) ?_
                       intro v5 w5 hown5 hgr5 _
                       have HB5 : Hid (Below wz.heap.size wz w5) := Lib.hid (HAk.out.grown hgr5 (by simp) (fun kk e => by cases e; exact Nat.le_refl _))
                       have HO5 : Hid (w5.ownsRow wz.heap.size 3 1 v5 (k) (ints (l.map Int.ofNat))) := Lib.hid (by simpa using hown5)
                       clear hown5 hgr5)
                    | (refine wpList_append_own _ rfl _ _ 22 rfl wz.heap.size 3 i0 (.int .i64 0) 1 8 Try.underlying22 HI.out.1 HI.out.2.1 HI.out.2.2.1 HI.out.2.2.2 rfl (by decide) v5 (k) (ints (l.map Int.ofNat)) rfl (HO5.out.alloc _) ⟨w5.heap.size, 0, none⟩ 1 1 [.int .i64 (b : Int)] rfl rfl (cell_one_new _ _ _) (by simp [Value.oneCell']) (by unfold maxLen; omega) (by omega) (by have := HB5.out.size; simp; omega) ?_
                       intro v6 w6 hown6 hgr6 _
                       have HB6 : Hid (Below wz.heap.size wz w6) := Lib.hid ((HB5.out.alloc HB5.out.size _).grown hgr6 (by have := HB5.out.size; simp; omega) (fun kk e => by have := (HO5.out.lt kk e).1; omega))
                       have HO6 : Hid (w6.ownsRow wz.heap.size 3 1 v6 (k + 1) (ints ((l ++ [b]).map Int.ofNat))) := Lib.hid (by simpa [ints] using hown6)
                       obtain ⟨a6, c6, rfl, -⟩ := RS.of_owns HO6.out
                       have HA6 : Hid (Below w6.heap.size w6 (w6.alloc (.cells #[.slice a6 (k + 1) c6] 22))) := Lib.hid ((Below.refl _ w6).alloc (Nat.le_refl _) _)
                       have HS6 : Hid (wk.heap.size ≤ w6.heap.size) := Lib.hid (by have := HB6.out.size; have := HBZ.out.size; omega)
                       clear hown6 hgr6 cxi)
                    | (refine wpList_append_own _ rfl _ _ 48 rfl wk.heap.size 22 i1 (.slice none 0 0) 1 24 Try.underlying48 HIR.out.1 HIR.out.2.1 HIR.out.2.2.1 HIR.out.2.2.2 rfl (by decide) (.slice a9 n9 c9) n9 vs9 rfl ((owns_below HV9.out.1 HB6.out).alloc _) ⟨w6.heap.size, 0, none⟩ 1 1 [.slice a6 (k + 1) c6] rfl rfl (cell_one_new _ _ _) (by simp [Value.oneCell']) (by unfold maxLen; omega) (by omega) (by have := HS6.out; simp; omega) ?_
                       intro v8 w8 hown8 hgr8 _
                       have HR8 : Hid (RowsI wk.heap.size w8 v8 (asI (lng d k i b) ++ [(l ++ [b]).map Int.ofNat])) := Lib.hid (by
                         refine RowsI.add (W := w6.alloc (.cells #[.slice a6 (k + 1) c6] 22)) (v := .slice a9 n9 c9) (vs := vs9) (x := .slice a6 (k + 1) c6) (by rw [HN9.out]; exact owns_below (owns_below HV9.out.1 HB6.out) HA6.out) (fun x l hx => let ⟨y, e, h3⟩ := HV9.out.2 x l hx; ⟨y, e, owns_below (owns_below h3 HB6.out) HA6.out⟩) ?_ (by rw [HN9.out]; exact hown8) hgr8
                         have h := owns_mono (owns_below HO6.out HA6.out) HBZ.out.size
                         rw [show ((l ++ [b]).map Int.ofNat).length = k + 1 by have := HLK.out.1; simp; omega]
                         exact h)
                       have HB8 : Hid (Below wk.heap.size wk w8) := Lib.hid (((HBZ.out.trans (HB6.out.mono HBZ.out.size)).trans (HA6.out.mono HS6.out)).grown hgr8 (by have := HS6.out; simp; omega) (fun kk e => (HV9.out.1.lt kk e).1))
                       clear hown8 hgr8))
                  go_wp2
                  go_roundw
                  case rel => exact ⟨b + 1, by omega, by omega, by go_num, HB8, Lib.hid (by rw [lng_yes d (by rw [← HLK.out.2.1]; exact HNX.out), ← HLK.out.2.1, asI, List.map_append]; exact HR8.out)⟩
                  case measure => simp [intOf]; omega
                · by_cases hy2 : y = (b : Int)
                  · have hcan : canB d k b = true := by rw [HCB.out, decide_eq_true hy2, Bool.or_true]
                    have dy : decide (0 ≤ y) = true := decide_eq_true (by omega)
                    have dy2 : (y != (b : Int)) = false := by rw [hy2]; simp
                    have HY2 := Lib.hid hy2
                    clear hy1 hy2
                    go_wp2_with fail
                    go_quiet (fail)
                    have HBZ : Hid (Below wk.heap.size wk (wr.drewN nq)) := Lib.hid (below_drewN hby.out nq)
                    have HRZ : Hid (RowsI wk.heap.size (wr.drewN nq) (.slice a9 n9 c9) (asI (lng d k i b))) := Lib.hid (HR9.out.below (below_drewN (Below.refl wr.heap.size wr) nq))
                    clear cy HR9 hby
                    generalize wr.drewN nq = wz at HBZ HRZ ⊢
                    have HNX : Hid (nextB d k l b = true) := Lib.hid (by rw [HNB.out b]; exact hcan)
                    have HAk : Hid (Below wz.heap.size wz (wz.alloc (.cells #[] 3))) := Lib.hid ((Below.refl _ wz).alloc (Nat.le_refl _) _)
                    obtain ⟨vs9, hv9, hx9⟩ := HRZ.out
                    rw [HN9.out] at hv9
                    have HV9 := Lib.hid (And.intro hv9 hx9)
                    have cxi : (wz.alloc (.cells #[] 3)).cell? ⟨b7, o7 + i, none⟩ = some (.slice (some ⟨bx, ox, none⟩) (k) cx) := HAk.out.on (HX.out.1 wz HBZ.out)
                    have HCC : Hid (∀ (j : Nat) (u : Value), (ints (l.map Int.ofNat))[j]? = some u → (wz.alloc (.cells #[] 3)).cell? ((⟨bx, ox, none⟩ : Addr).add j) = some u) := Lib.hid (fun j u hj => by rw [addr_add]; exact HAk.out.on (HX.out.2 wz HBZ.out j u hj))
                    clear hv9 hx9
                    go_wp2_with (at_builtin; first
                      | (refine wpList_append_own _ rfl _ _ 22 rfl wz.heap.size 3 i0 (.int .i64 0) 1 8 Try.underlying22 HI.out.1 HI.out.2.1 HI.out.2.2.1 HI.out.2.2.2 rfl (by decide) (.slice (some ⟨wz.heap.size, 0, none⟩) 0 0) 0 [] rfl (owns_empty wz (Nat.le_refl _) _) ⟨bx, ox, none⟩ (k) cx (ints (l.map Int.ofNat)) rfl (by have := HLK.out.1; simp [ints]; omega) HCC.out (ints_one _) (by unfold maxLen; omega) (by omega) (by simp) ?_
                         intro v5 w5 hown5 hgr5 _
                         have HB5 : Hid (Below wz.heap.size wz w5) := Lib.hid (HAk.out.grown hgr5 (by simp) (fun kk e => by cases e; exact Nat.le_refl _))
                         have HO5 : Hid (w5.ownsRow wz.heap.size 3 1 v5 (k) (ints (l.map Int.ofNat))) := Lib.hid (by simpa using hown5)
                         clear hown5 hgr5)
                      | (refine wpList_append_own _ rfl _ _ 22 rfl wz.heap.size 3 i0 (.int .i64 0) 1 8 Try.underlying22 HI.out.1 HI.out.2.1 HI.out.2.2.1 HI.out.2.2.2 rfl (by decide) v5 (k) (ints (l.map Int.ofNat)) rfl (HO5.out.alloc _) ⟨w5.heap.size, 0, none⟩ 1 1 [.int .i64 (b : Int)] rfl rfl (cell_one_new _ _ _) (by simp [Value.oneCell']) (by unfold maxLen; omega) (by omega) (by have := HB5.out.size; simp; omega) ?_
                         intro v6 w6 hown6 hgr6 _
                         have HB6 : Hid (Below wz.heap.size wz w6) := Lib.hid ((HB5.out.alloc HB5.out.size _).grown hgr6 (by have := HB5.out.size; simp; omega) (fun kk e => by have := (HO5.out.lt kk e).1; omega))
                         have HO6 : Hid (w6.ownsRow wz.heap.size 3 1 v6 (k + 1) (ints ((l ++ [b]).map Int.ofNat))) := Lib.hid (by simpa [ints] using hown6)
                         obtain ⟨a6, c6, rfl, -⟩ := RS.of_owns HO6.out
                         have HA6 : Hid (Below w6.heap.size w6 (w6.alloc (.cells #[.slice a6 (k + 1) c6] 22))) := Lib.hid ((Below.refl _ w6).alloc (Nat.le_refl _) _)
                         have HS6 : Hid (wk.heap.size ≤ w6.heap.size) := Lib.hid (by have := HB6.out.size; have := HBZ.out.size; omega)
                         clear hown6 hgr6 cxi)
                      | (refine wpList_append_own _ rfl _ _ 48 rfl wk.heap.size 22 i1 (.slice none 0 0) 1 24 Try.underlying48 HIR.out.1 HIR.out.2.1 HIR.out.2.2.1 HIR.out.2.2.2 rfl (by decide) (.slice a9 n9 c9) n9 vs9 rfl ((owns_below HV9.out.1 HB6.out).alloc _) ⟨w6.heap.size, 0, none⟩ 1 1 [.slice a6 (k + 1) c6] rfl rfl (cell_one_new _ _ _) (by simp [Value.oneCell']) (by unfold maxLen; omega) (by omega) (by have := HS6.out; simp; omega) ?_
                         intro v8 w8 hown8 hgr8 _
                         have HR8 : Hid (RowsI wk.heap.size w8 v8 (asI (lng d k i b) ++ [(l ++ [b]).map Int.ofNat])) := Lib.hid (by
                           refine RowsI.add (W := w6.alloc (.cells #[.slice a6 (k + 1) c6] 22)) (v := .slice a9 n9 c9) (vs := vs9) (x := .slice a6 (k + 1) c6) (by rw [HN9.out]; exact owns_below (owns_below HV9.out.1 HB6.out) HA6.out) (fun x l hx => let ⟨y, e, h3⟩ := HV9.out.2 x l hx; ⟨y, e, owns_below (owns_below h3 HB6.out) HA6.out⟩) ?_ (by rw [HN9.out]; exact hown8) hgr8
                           have h := owns_mono (owns_below HO6.out HA6.out) HBZ.out.size
                           rw [show ((l ++ [b]).map Int.ofNat).length = k + 1 by have := HLK.out.1; simp; omega]
                           exact h)
                         have HB8 : Hid (Below wk.heap.size wk w8) := Lib.hid (((HBZ.out.trans (HB6.out.mono HBZ.out.size)).trans (HA6.out.mono HS6.out)).grown hgr8 (by have := HS6.out; simp; omega) (fun kk e => (HV9.out.1.lt kk e).1))
                         clear hown8 hgr8))
                    go_wp2
                    go_roundw
                    case rel => exact ⟨b + 1, by omega, by omega, by go_num, HB8, Lib.hid (by rw [lng_yes d (by rw [← HLK.out.2.1]; exact HNX.out), ← HLK.out.2.1, asI, List.map_append]; exact HR8.out)⟩
                    case measure => simp [intOf]; omega
                  · have hcan : canB d k b = false := by rw [HCB.out, decide_eq_false hy1, decide_eq_false hy2]; rfl
                    have dy : decide (0 ≤ y) = true := decide_eq_true (by omega)
                    have dy2 : (y != (b : Int)) = true := by rw [bne_iff_ne]; exact hy2
                    go_wp2_with fail
                    go_quiet (fail)
                    have HBZ : Hid (Below wk.heap.size wk (wr.drewN nq)) := Lib.hid (below_drewN hby.out nq)
                    have HRZ : Hid (RowsI wk.heap.size (wr.drewN nq) (.slice a9 n9 c9) (asI (lng d k i b))) := Lib.hid (HR9.out.below (below_drewN (Below.refl wr.heap.size wr) nq))
                    clear cy HR9 hby
                    generalize wr.drewN nq = wz at HBZ HRZ ⊢
                    have HNX : Hid (nextB d k l b = false) := Lib.hid (by rw [HNB.out b, hcan])
                    go_wp2
                    go_roundw
                    case rel => exact ⟨b + 1, by omega, by omega, by go_num, HBZ, Lib.hid (by rw [lng_no d (by rw [← HLK.out.2.1]; exact HNX.out)]; exact HRZ.out)⟩
                    case measure => simp [intOf]; omega
              · have hbr2 : b = rl + 1 := by omega
                subst hbr2
                have db : decide (rl + 1 ≤ rl) = false := decide_eq_false (by omega)
                have db' : decide ((rl : Int) + 1 ≤ (rl : Int)) = false := decide_eq_false (by omega)
                go_wp2
                go_roundw
                case rel => exact ⟨i + 1, by omega, by go_num, hby, Lib.hid (by rw [← lng_next d (by have := HLK.out.2.2.1; omega), ← HN.out.1]; exact HR9.out)⟩
                case measure => simp [intOf]; omega
          · obtain ⟨kp, hkp⟩ : ∃ k', k = k' + 1 := ⟨k - 1, by omega⟩
            have HKP := Lib.hid hkp
            obtain ⟨la, hla⟩ : ∃ la, la = l.getD kp 0 := ⟨_, rfl⟩
            have HLA := Lib.hid hla
            have hlarl : la ≤ rl := by
              have hkl : kp < l.length := by have := HLK.out.1; omega
              rw [hla, List.getD_eq_getElem?_getD, List.getElem?_eq_getElem hkl]
              exact HLK.out.2.2.2 _ (List.getElem_mem hkl)
            have HXL : Hid (∀ W, Below wk.heap.size wk W → W.cell? ⟨bx, ox + kp, none⟩ = some (.int .i64 (la : Int))) := Lib.hid (fun W hW => by rw [hla]; exact HX.out.2 W hW kp _ (nats_at (by have := HLK.out.1; omega)))
            obtain ⟨fb, fo, rfl, hfb, hfs⟩ := HFC.out (spans_ne (by have := HN.out.2.2.2.2.1; omega))
            obtain ⟨g1, hg1⟩ : ∃ g, g = (d.f.getD kp (0, 0)).1 := ⟨_, rfl⟩
            obtain ⟨g2, hg2⟩ : ∃ g, g = (d.f.getD kp (0, 0)).2 := ⟨_, rfl⟩
            have HG : Hid (∀ W, Below w.heap.size w W → W.cell? ⟨fb, fo + kp * 2, none⟩ = some (.int .i64 g1) ∧ W.cell? ⟨fb, fo + kp * 2 + 1, none⟩ = some (.int .i64 g2)) := Lib.hid (fun W hW => by
              have hkf : kp < d.f.length := by have := HN.out; omega
              have e : d.f.getD kp (0, 0) = d.f[kp] := by rw [List.getD_eq_getElem?_getD, List.getElem?_eq_getElem hkf]; rfl
              rw [hW.cell (p := ⟨fb, fo + kp * 2, none⟩) (Nat.lt_of_lt_of_le hfb HN.out.2.2.2.2.2.2), hW.cell (p := ⟨fb, fo + kp * 2 + 1, none⟩) (Nat.lt_of_lt_of_le hfb HN.out.2.2.2.2.2.2), hg1, hg2, e]
              exact ⟨hfs _ _ (spans_lo _ kp hkf), hfs _ _ (spans_hi _ kp hkf)⟩)
            have HNB : Hid (∀ b, nextB d k l b = (canB d k b && (decide (la < b) && fitsB d.r la b (g1, g2)))) := Lib.hid (fun b => by
              unfold nextB
              rw [hg1, hg2, hla, decide_eq_false (show ¬ k = 0 by omega), Bool.false_or, show k - 1 = kp by omega])
            have ci := HX.out.1 wm hbm.out
            have cl := HXL.out wm hbm.out
            have kw1 : IntKind.i64.wrap ((k : Int) - 1) = (kp : Int) := by rw [IntWalk.i64_in _ (by omega)]; omega
            have dk : decide (0 < k) = true := decide_eq_true (by omega)
            have dk' : decide ((0 : Int) < (k : Int)) = true := decide_eq_true (by omega)
            have kkf : kp < fl := by omega
            have kkk : kp < k := by omega
            clear hla hg1 hg2 hfb hfs hk0 hkp
            go_wp2_with fail
            go_loopw [9, 12] (fun v9 bv W => ∃ b : Nat, la + 1 ≤ b ∧ b ≤ rl + 1 ∧ bv = .int .i64 (b : Int) ∧ Hid (Below wk.heap.size wk W) ∧ Hid (RowsI wk.heap.size W v9 (asI (lng d k i b)))) (fun _ bv _ => rl + 1 - (intOf bv).toNat)
            case atStart => exact ⟨la + 1, Nat.le_refl _, by omega, by go_num, hbm, Lib.hid (by rw [lng_low d (by have := HKP.out; omega) (la + 1) (by rw [← HLK.out.2.1, show k - 1 = kp by have := HKP.out; omega, ← HLA.out]; exact Nat.le_refl _)]; exact hr9.out)⟩
            case round =>
              obtain ⟨b, hb1, hb2, rfl, hby, hr9⟩ := hrel
              have HBW : Hid (Below w.heap.size w wr) := Lib.hid (hbk.out.trans (hby.out.mono hbk.out.size))
              have b64 : b < 100 := by omega
              obtain ⟨n9, hn9⟩ : ∃ x, x = (asI (lng d k i b)).length := ⟨_, rfl⟩
              have h512 : n9 ≤ 512 := by
                rw [hn9, asI_len]
                exact lng_bound d (by have := HLK.out.2.2.1; omega) (by have := HN.out.1; omega) (by have := HN.out.1; omega)
              obtain ⟨a9, c9, rfl, -⟩ : ∃ a c, u9 = .slice a n9 c ∧ True := by
                obtain ⟨vs, h1, -⟩ := hr9.out
                obtain ⟨a, c, e, -⟩ := RS.of_owns h1
                exact ⟨a, c, by rw [hn9]; exact e, trivial⟩
              have HR9 := hr9
              have HN9 : Hid ((asI (lng d k i b)).length = n9) := Lib.hid hn9.symm
              have d5 : decide (n9 < 5000) = true := decide_eq_true (by omega)
              have d5' : decide ((n9 : Int) < 5000) = true := decide_eq_true (by omega)
              clear hn9 hr9
              by_cases hb : b ≤ rl
              · have db : decide (b ≤ rl) = true := decide_eq_true hb
                have db' : decide ((b : Int) ≤ (rl : Int)) = true := decide_eq_true (by omega)
                obtain ⟨y, hy⟩ : ∃ y, y = d.m.getD k 0 := ⟨_, rfl⟩
                have cy : wr.cell? ⟨mb, mo + k, none⟩ = some (.int .i64 y) := by rw [hy]; exact HMC.out wr HBW.out k (by omega)
                have hym : -1 ≤ y := by rw [hy]; exact HMN.out k (by omega)
                have HCB : Hid (canB d k b = (decide (y = -1) || decide (y = (b : Int)))) := Lib.hid (by
                  unfold canB
                  rw [hy]
                  rw [show d.m.getD k (-1) = d.m.getD k 0 from HMD.out k (by omega)])
                clear hy
                by_cases hy1 : y = -1
                · have hcan : canB d k b = true := by rw [HCB.out, decide_eq_true hy1]; rfl
                  have dy : decide (0 ≤ y) = false := decide_eq_false (by omega)
                  clear hy1
                  have hC : (fun W => W.cell? ⟨mb, mo + k, none⟩ = some (.int .i64 y) ∧ W.cell? ⟨b7, o7 + i, none⟩ = some (.slice (some ⟨bx, ox, none⟩) k cx) ∧ W.cell? ⟨bx, ox + kp, none⟩ = some (.int .i64 (la : Int)) ∧ W.cell? ⟨fb, fo + kp * 2, none⟩ = some (.int .i64 g1) ∧ W.cell? ⟨fb, fo + kp * 2 + 1, none⟩ = some (.int .i64 g2)) wr.drew := ⟨by simpa using cy, by simpa using HX.out.1 wr hby.out, by simpa using HXL.out wr hby.out, by simpa using (HG.out wr HBW.out).1, by simpa using (HG.out wr HBW.out).2⟩
                  have HB4 : Hid (Below w.heap.size w wr.drew) := Lib.hid HBW.out.drew
                  have HBK4 : Hid (Below wk.heap.size wk wr.drew) := Lib.hid hby.out.drew
                  have HR4 : Hid (RowsI wk.heap.size wr.drew (.slice a9 n9 c9) (asI (lng d k i b))) := Lib.hid (HR9.out.below (Below.refl wr.heap.size wr).drew)
                  have HFT : Hid (∀ W, Below w.heap.size w W → Calls Try.prog 101 #[.slice ra rl rc, .int .i64 (la : Int), .int .i64 (b : Int), .agg #[.int .i64 g1, .int .i64 g2]] W fun e w' => e = .returned (.bool (fitsB d.r la b (g1, g2))) ∧ Below W.heap.size W w') := Lib.hid fun W hW => HFI.out la b g1 g2 W hW (by omega) hb
                  clear cy HR9 hby
                  go_wp2_with fail
                  generalize hW0 : wr.drew = w4 at HB4 HBK4 HR4 hC
                  refine Lim.regC' (fun W => W.cell? ⟨mb, mo + k, none⟩ = some (.int .i64 y) ∧ W.cell? ⟨b7, o7 + i, none⟩ = some (.slice (some ⟨bx, ox, none⟩) k cx) ∧ W.cell? ⟨bx, ox + kp, none⟩ = some (.int .i64 (la : Int)) ∧ W.cell? ⟨fb, fo + kp * 2, none⟩ = some (.int .i64 g1) ∧ W.cell? ⟨fb, fo + kp * 2 + 1, none⟩ = some (.int .i64 g2)) [] #[false, false, false, false, false, false, false, false, false, false, false, false, false, false, false, false, false, false, false, false, false, false, false, false, false, false, false, false, false, false, false, false, false, false, false, false] (by kernel_rfl) rfl ?_
                  rw [hW0]; clear hW0
                  refine Lim.stepR 0 (fun _ => trivial) rfl (by kernel_rfl) (fun _ _ _ _ h => h) hC rfl ?_; apply Exists.intro; refine ⟨?_, ?_⟩
                  · rintro w ⟨r0, r1, r2, r3, r4⟩; go_simp; try with_reducible rfl
                  simp only [Act.put, List.setIfInBounds_toArray, List.set_cons_succ, List.set_cons_zero]
                  refine Lim.stepR 1 (fun _ => trivial) rfl (by kernel_rfl) (fun _ _ _ _ h => h) hC rfl ?_; apply Exists.intro; refine ⟨?_, ?_⟩
                  · rintro w ⟨r0, r1, r2, r3, r4⟩; go_simp; try with_reducible rfl
                  simp only [Act.put, List.setIfInBounds_toArray, List.set_cons_succ, List.set_cons_zero]
                  refine Lim.stepR 2 (fun _ => trivial) rfl (by kernel_rfl) (fun _ _ _ _ h => h) hC rfl ?_; apply Exists.intro; refine ⟨?_, ?_⟩
                  · rintro w ⟨r0, r1, r2, r3, r4⟩; go_simp; try with_reducible rfl
                  simp only [Act.put, List.setIfInBounds_toArray, List.set_cons_succ, List.set_cons_zero]
                  refine Lim.stepR 3 (fun _ => trivial) rfl (by kernel_rfl) (fun _ _ _ _ h => h) hC rfl ?_; apply Exists.intro; refine ⟨?_, ?_⟩
                  · rintro w ⟨r0, r1, r2, r3, r4⟩; go_simp; try with_reducible rfl
                  simp only [Act.put, List.setIfInBounds_toArray, List.set_cons_succ, List.set_cons_zero]
                  refine Lim.stepR 4 (fun _ => trivial) rfl (by kernel_rfl) (fun _ _ _ _ h => h) hC rfl ?_; apply Exists.intro; refine ⟨?_, ?_⟩
                  · rintro w ⟨r0, r1, r2, r3, r4⟩; go_simp; try with_reducible rfl
                  simp only [Act.put, List.setIfInBounds_toArray, List.set_cons_succ, List.set_cons_zero]
                  refine Lim.stepR 5 (fun _ => trivial) rfl (by kernel_rfl) (fun _ _ _ _ h => h) hC rfl ?_; apply Exists.intro; refine ⟨?_, ?_⟩
                  · rintro w ⟨r0, r1, r2, r3, r4⟩; go_simp; try with_reducible rfl
                  simp only [Act.put, List.setIfInBounds_toArray, List.set_cons_succ, List.set_cons_zero]
                  refine Lim.stepS 6 (fun _ => trivial) rfl (by kernel_rfl) (fun _ _ _ _ h => h) hC rfl ?_
                  simp only [Act.put, List.setIfInBounds_toArray, List.set_cons_succ, List.set_cons_zero]
                  refine Lim.stepS 7 (fun _ => trivial) rfl (by kernel_rfl) (fun _ _ _ _ h => h) hC rfl ?_
                  simp only [Act.put, List.setIfInBounds_toArray, List.set_cons_succ, List.set_cons_zero]
                  refine Lim.stepS 8 (fun _ => trivial) rfl (by kernel_rfl) (fun _ _ _ _ h => h) hC rfl ?_
                  simp only [Act.put, List.setIfInBounds_toArray, List.set_cons_succ, List.set_cons_zero]
                  refine Lim.stepS 9 (fun _ => trivial) rfl (by kernel_rfl) (fun _ _ _ _ h => h) hC rfl ?_
                  simp only [Act.put, List.setIfInBounds_toArray, List.set_cons_succ, List.set_cons_zero]
                  refine Lim.stepS 10 (fun _ => trivial) rfl (by kernel_rfl) (fun _ _ _ _ h => h) hC rfl ?_
                  simp only [Act.put, List.setIfInBounds_toArray, List.set_cons_succ, List.set_cons_zero]
                  refine Lim.stepS 11 (fun _ => trivial) rfl (by kernel_rfl) (fun _ _ _ _ h => h) hC rfl ?_
                  simp only [Act.put, List.setIfInBounds_toArray, List.set_cons_succ, List.set_cons_zero]
                  refine Lim.stepR 12 (fun _ => trivial) rfl (by kernel_rfl) (fun _ _ _ _ h => h) hC rfl ?_; apply Exists.intro; refine ⟨?_, ?_⟩
                  · rintro w ⟨r0, r1, r2, r3, r4⟩; go_simp; try with_reducible rfl
                  simp only [Act.put, List.setIfInBounds_toArray, List.set_cons_succ, List.set_cons_zero]
                  refine Lim.stepR 13 (fun _ => trivial) rfl (by kernel_rfl) (fun _ _ _ _ h => h) hC rfl ?_; apply Exists.intro; refine ⟨?_, ?_⟩
                  · rintro w ⟨r0, r1, r2, r3, r4⟩; go_simp; try with_reducible rfl
                  simp only [Act.put, List.setIfInBounds_toArray, List.set_cons_succ, List.set_cons_zero]
                  refine Lim.stepR 14 (fun _ => trivial) rfl (by kernel_rfl) (fun _ _ _ _ h => h) hC rfl ?_; apply Exists.intro; refine ⟨?_, ?_⟩
                  · rintro w ⟨r0, r1, r2, r3, r4⟩; go_simp; try with_reducible rfl
                  simp only [Act.put, List.setIfInBounds_toArray, List.set_cons_succ, List.set_cons_zero]
                  refine Lim.stepR 15 (fun _ => trivial) rfl (by kernel_rfl) (fun _ _ _ _ h => h) hC rfl ?_; apply Exists.intro; refine ⟨?_, ?_⟩
                  · rintro w ⟨r0, r1, r2, r3, r4⟩; go_simp; try with_reducible rfl
                  simp only [Act.put, List.setIfInBounds_toArray, List.set_cons_succ, List.set_cons_zero]
                  refine Lim.stepR 16 (fun _ => trivial) rfl (by kernel_rfl) (fun _ _ _ _ h => h) hC rfl ?_; apply Exists.intro; refine ⟨?_, ?_⟩
                  · rintro w ⟨r0, r1, r2, r3, r4⟩; go_simp; try with_reducible rfl
                  simp only [Act.put, List.setIfInBounds_toArray, List.set_cons_succ, List.set_cons_zero]
                  refine Lim.stepR 17 (fun _ => trivial) rfl (by kernel_rfl) (fun _ _ _ _ h => h) hC rfl ?_; apply Exists.intro; refine ⟨?_, ?_⟩
                  · rintro w ⟨r0, r1, r2, r3, r4⟩; go_simp; try with_reducible rfl
                  simp only [Act.put, List.setIfInBounds_toArray, List.set_cons_succ, List.set_cons_zero]
                  refine Lim.stepR 18 (fun _ => trivial) rfl (by kernel_rfl) (fun _ _ _ _ h => h) hC rfl ?_; apply Exists.intro; refine ⟨?_, ?_⟩
                  · rintro w ⟨r0, r1, r2, r3, r4⟩; go_simp; try with_reducible rfl
                  simp only [Act.put, List.setIfInBounds_toArray, List.set_cons_succ, List.set_cons_zero]
                  refine Lim.stepR 19 (fun _ => trivial) rfl (by kernel_rfl) (fun _ _ _ _ h => h) hC rfl ?_; apply Exists.intro; refine ⟨?_, ?_⟩
                  · rintro w ⟨r0, r1, r2, r3, r4⟩; go_simp; try with_reducible rfl
                  simp only [Act.put, List.setIfInBounds_toArray, List.set_cons_succ, List.set_cons_zero]
                  refine Lim.stepR 20 (fun _ => trivial) rfl (by kernel_rfl) (fun _ _ _ _ h => h) hC rfl ?_; apply Exists.intro; refine ⟨?_, ?_⟩
                  · rintro w ⟨r0, r1, r2, r3, r4⟩; go_simp; try with_reducible rfl
                  simp only [Act.put, List.setIfInBounds_toArray, List.set_cons_succ, List.set_cons_zero]
                  refine Lim.stepR 21 (fun _ => trivial) rfl (by kernel_rfl) (fun _ _ _ _ h => h) hC rfl ?_; apply Exists.intro; refine ⟨?_, ?_⟩
                  · rintro w ⟨r0, r1, r2, r3, r4⟩; go_simp; try with_reducible rfl
                  simp only [Act.put, List.setIfInBounds_toArray, List.set_cons_succ, List.set_cons_zero]
                  refine Lim.stepR 22 (fun _ => trivial) rfl (by kernel_rfl) (fun _ _ _ _ h => h) hC rfl ?_; apply Exists.intro; refine ⟨?_, ?_⟩
                  · rintro w ⟨r0, r1, r2, r3, r4⟩; go_simp; try with_reducible rfl
                  simp only [Act.put, List.setIfInBounds_toArray, List.set_cons_succ, List.set_cons_zero]
                  refine Lim.stepR 23 (fun _ => trivial) rfl (by kernel_rfl) (fun _ _ _ _ h => h) hC rfl ?_; apply Exists.intro; refine ⟨?_, ?_⟩
                  · rintro w ⟨r0, r1, r2, r3, r4⟩; go_simp; try with_reducible rfl
                  simp only [Act.put, List.setIfInBounds_toArray, List.set_cons_succ, List.set_cons_zero]
                  refine Lim.stepR 24 (fun _ => trivial) rfl (by kernel_rfl) (fun _ _ _ _ h => h) hC rfl ?_; apply Exists.intro; refine ⟨?_, ?_⟩
                  · rintro w ⟨r0, r1, r2, r3, r4⟩; go_simp; try with_reducible rfl
                  simp only [Act.put, List.setIfInBounds_toArray, List.set_cons_succ, List.set_cons_zero]
                  refine Lim.stepR 25 (fun _ => trivial) rfl (by kernel_rfl) (fun _ _ _ _ h => h) hC rfl ?_; apply Exists.intro; refine ⟨?_, ?_⟩
                  · rintro w ⟨r0, r1, r2, r3, r4⟩; go_simp; try with_reducible rfl
                  simp only [Act.put, List.setIfInBounds_toArray, List.set_cons_succ, List.set_cons_zero]
                  refine Lim.stepR 26 (fun _ => trivial) rfl (by kernel_rfl) (fun _ _ _ _ h => h) hC rfl ?_; apply Exists.intro; refine ⟨?_, ?_⟩
                  · rintro w ⟨r0, r1, r2, r3, r4⟩; go_simp; try with_reducible rfl
                  simp only [Act.put, List.setIfInBounds_toArray, List.set_cons_succ, List.set_cons_zero]
                  refine Lim.stepR 27 (fun _ => trivial) rfl (by kernel_rfl) (fun _ _ _ _ h => h) hC rfl ?_; apply Exists.intro; refine ⟨?_, ?_⟩
                  · rintro w ⟨r0, r1, r2, r3, r4⟩; go_simp; try with_reducible rfl
                  simp only [Act.put, List.setIfInBounds_toArray, List.set_cons_succ, List.set_cons_zero]
                  refine Lim.stepR 28 (fun _ => trivial) rfl (by kernel_rfl) (fun _ _ _ _ h => h) hC rfl ?_; apply Exists.intro; refine ⟨?_, ?_⟩
                  · rintro w ⟨r0, r1, r2, r3, r4⟩; go_simp; try with_reducible rfl
                  simp only [Act.put, List.setIfInBounds_toArray, List.set_cons_succ, List.set_cons_zero]
                  refine Lim.stepR 29 (fun _ => trivial) rfl (by kernel_rfl) (fun _ _ _ _ h => h) hC rfl ?_; apply Exists.intro; refine ⟨?_, ?_⟩
                  · rintro w ⟨r0, r1, r2, r3, r4⟩; go_simp; try with_reducible rfl
                  simp only [Act.put, List.setIfInBounds_toArray, List.set_cons_succ, List.set_cons_zero]
                  refine Lim.stepR 30 (fun _ => trivial) rfl (by kernel_rfl) (fun _ _ _ _ h => h) hC rfl ?_; apply Exists.intro; refine ⟨?_, ?_⟩
                  · rintro w ⟨r0, r1, r2, r3, r4⟩; go_simp; try with_reducible rfl
                  simp only [Act.put, List.setIfInBounds_toArray, List.set_cons_succ, List.set_cons_zero]
                  refine Lim.stepR 31 (fun _ => trivial) rfl (by kernel_rfl) (fun _ _ _ _ h => h) hC rfl ?_; apply Exists.intro; refine ⟨?_, ?_⟩
                  · rintro w ⟨r0, r1, r2, r3, r4⟩; go_simp; try with_reducible rfl
                  simp only [Act.put, List.setIfInBounds_toArray, List.set_cons_succ, List.set_cons_zero]
                  refine Lim.stepE 32 (fun _ => trivial) rfl (by kernel_rfl) rfl (fun K hK => ?_)   -- E call
                  go_simp
                  refine ⟨rfl, (callsIn_wide.2 (HFT.out _ HB4.out)).mono ?_⟩
                  rintro e w5 ⟨rfl, hb5⟩
                  have hC5 : (fun W => W.cell? ⟨mb, mo + k, none⟩ = some (.int .i64 y) ∧ W.cell? ⟨b7, o7 + i, none⟩ = some (.slice (some ⟨bx, ox, none⟩) k cx) ∧ W.cell? ⟨bx, ox + kp, none⟩ = some (.int .i64 (la : Int)) ∧ W.cell? ⟨fb, fo + kp * 2, none⟩ = some (.int .i64 g1) ∧ W.cell? ⟨fb, fo + kp * 2 + 1, none⟩ = some (.int .i64 g2)) w5 := ⟨hb5.on hC.1, hb5.on hC.2.1, hb5.on hC.2.2.1, hb5.on hC.2.2.2.1, hb5.on hC.2.2.2.2⟩
                  have HBZ : Hid (Below wk.heap.size wk w5) := Lib.hid (HBK4.out.trans (hb5.mono HBK4.out.size))
                  have HRZ : Hid (RowsI wk.heap.size w5 (.slice a9 n9 c9) (asI (lng d k i b))) := Lib.hid (HR4.out.below hb5)
                  clear hb5
                  refine hK _ _ hC5 ?_
                  simp only [Act.put, List.setIfInBounds_toArray, List.set_cons_succ, List.set_cons_zero]
                  refine Lim.stepR 33 (fun _ => trivial) rfl (by kernel_rfl) (fun _ _ _ _ h => h) hC5 rfl ?_; apply Exists.intro; refine ⟨?_, ?_⟩
                  · rintro w ⟨r0, r1, r2, r3, r4⟩; go_simp; try with_reducible rfl
                  simp only [Act.put, List.setIfInBounds_toArray, List.set_cons_succ, List.set_cons_zero]
                  refine Lim.stepR 34 (fun _ => trivial) rfl (by kernel_rfl) (fun _ _ _ _ h => h) hC5 rfl ?_; apply Exists.intro; refine ⟨?_, ?_⟩
                  · rintro w ⟨r0, r1, r2, r3, r4⟩; go_simp; try with_reducible rfl
                  simp only [Act.put, List.setIfInBounds_toArray, List.set_cons_succ, List.set_cons_zero]
                  refine Lim.stepR 35 (fun _ => trivial) rfl (by kernel_rfl) (fun _ _ _ _ h => h) hC5 rfl ?_; apply Exists.intro; refine ⟨?_, ?_⟩
                  · rintro w ⟨r0, r1, r2, r3, r4⟩; go_simp; try with_reducible rfl
                  simp only [Act.put, List.setIfInBounds_toArray, List.set_cons_succ, List.set_cons_zero]
                  refine Lim.stepD (by kernel_rfl) ?_
                  clear hC hC5
                  obtain ⟨z, hz⟩ : ∃ z, z = fitsB d.r la b (g1, g2) := ⟨_, rfl⟩
                  have HNX : Hid (nextB d k l b = z) := Lib.hid (by
                    rw [HNB.out b, hz]
                    rw [hcan, Bool.true_and, decide_eq_true (show la < b by omega), Bool.true_and])
                  rw [← hz]
                  clear hz
                  cases z with
                  | true =>
                    obtain ⟨wz, rfl⟩ : ∃ x, x = w5 := ⟨_, rfl⟩
                    have HAk : Hid (Below wz.heap.size wz (wz.alloc (.cells #[] 3))) := Lib.hid ((Below.refl _ wz).alloc (Nat.le_refl _) _)
                    obtain ⟨vs9, hv9, hx9⟩ := HRZ.out
                    rw [HN9.out] at hv9
                    have HV9 := Lib.hid (And.intro hv9 hx9)
                    have cxi : (wz.alloc (.cells #[] 3)).cell? ⟨b7, o7 + i, none⟩ = some (.slice (some ⟨bx, ox, none⟩) (k) cx) := HAk.out.on (HX.out.1 wz HBZ.out)
                    have HCC : Hid (∀ (j : Nat) (u : Value), (ints (l.map Int.ofNat))[j]? = some u → (wz.alloc (.cells #[] 3)).cell? ((⟨bx, ox, none⟩ : Addr).add j) = some u) := Lib.hid (fun j u hj => by rw [addr_add]; exact HAk.out.on (HX.out.2 wz HBZ.out j u hj))
                    clear hv9 hx9
                    go_wp2_with (at_builtin; first
                      | (refine wpList_append_own _ rfl _ _ 22 rfl wz.heap.size 3 i0 (.int .i64 0) 1 8 Try.underlying22 HI.out.1 HI.out.2.1 HI.out.2.2.1 HI.out.2.2.2 rfl (by decide) (.slice (some ⟨wz.heap.size, 0, none⟩) 0 0) 0 [] rfl (owns_empty wz (Nat.le_refl _) _) ⟨bx, ox, none⟩ (k) cx (ints (l.map Int.ofNat)) rfl (by have := HLK.out.1; simp [ints]; omega) HCC.out (ints_one _) (by unfold maxLen; omega) (by omega) (by simp) ?_
                         intro v5 w5 hown5 hgr5 _
                         have HB5 : Hid (Below wz.heap.size wz w5) := Lib.hid (HAk.out.grown hgr5 (by simp) (fun kk e => by cases e; exact Nat.le_refl _))
                         have HO5 : Hid (w5.ownsRow wz.heap.size 3 1 v5 (k) (ints (l.map Int.ofNat))) := Lib.hid (by simpa using hown5)
                         clear hown5 hgr5)
                      | (refine wpList_append_own _ rfl _ _ 22 rfl wz.heap.size 3 i0 (.int .i64 0) 1 8 Try.underlying22 HI.out.1 HI.out.2.1 HI.out.2.2.1 HI.out.2.2.2 rfl (by decide) v5 (k) (ints (l.map Int.ofNat)) rfl (HO5.out.alloc _) ⟨w5.heap.size, 0, none⟩ 1 1 [.int .i64 (b : Int)] rfl rfl (cell_one_new _ _ _) (by simp [Value.oneCell']) (by unfold maxLen; omega) (by omega) (by have := HB5.out.size; simp; omega) ?_
                         intro v6 w6 hown6 hgr6 _
                         have HB6 : Hid (Below wz.heap.size wz w6) := Lib.hid ((HB5.out.alloc HB5.out.size _).grown hgr6 (by have := HB5.out.size; simp; omega) (fun kk e => by have := (HO5.out.lt kk e).1; omega))
                         have HO6 : Hid (w6.ownsRow wz.heap.size 3 1 v6 (k + 1) (ints ((l ++ [b]).map Int.ofNat))) := Lib.hid (by simpa [ints] using hown6)
                         obtain ⟨a6, c6, rfl, -⟩ := RS.of_owns HO6.out
                         have HA6 : Hid (Below w6.heap.size w6 (w6.alloc (.cells #[.slice a6 (k + 1) c6] 22))) := Lib.hid ((Below.refl _ w6).alloc (Nat.le_refl _) _)
                         have HS6 : Hid (wk.heap.size ≤ w6.heap.size) := Lib.hid (by have := HB6.out.size; have := HBZ.out.size; omega)
                         clear hown6 hgr6 cxi)
                      | (refine wpList_append_own _ rfl _ _ 48 rfl wk.heap.size 22 i1 (.slice none 0 0) 1 24 Try.underlying48 HIR.out.1 HIR.out.2.1 HIR.out.2.2.1 HIR.out.2.2.2 rfl (by decide) (.slice a9 n9 c9) n9 vs9 rfl ((owns_below HV9.out.1 HB6.out).alloc _) ⟨w6.heap.size, 0, none⟩ 1 1 [.slice a6 (k + 1) c6] rfl rfl (cell_one_new _ _ _) (by simp [Value.oneCell']) (by unfold maxLen; omega) (by omega) (by have := HS6.out; simp; omega) ?_
                         intro v8 w8 hown8 hgr8 _
                         have HR8 : Hid (RowsI wk.heap.size w8 v8 (asI (lng d k i b) ++ [(l ++ [b]).map Int.ofNat])) := Lib.hid (by
                           refine RowsI.add (W := w6.alloc (.cells #[.slice a6 (k + 1) c6] 22)) (v := .slice a9 n9 c9) (vs := vs9) (x := .slice a6 (k + 1) c6) (by rw [HN9.out]; exact owns_below (owns_below HV9.out.1 HB6.out) HA6.out) (fun x l hx => let ⟨y, e, h3⟩ := HV9.out.2 x l hx; ⟨y, e, owns_below (owns_below h3 HB6.out) HA6.out⟩) ?_ (by rw [HN9.out]; exact hown8) hgr8
                           have h := owns_mono (owns_below HO6.out HA6.out) HBZ.out.size
                           rw [show ((l ++ [b]).map Int.ofNat).length = k + 1 by have := HLK.out.1; simp; omega]
                           exact h)
                         have HB8 : Hid (Below wk.heap.size wk w8) := Lib.hid (((HBZ.out.trans (HB6.out.mono HBZ.out.size)).trans (HA6.out.mono HS6.out)).grown hgr8 (by have := HS6.out; simp; omega) (fun kk e => (HV9.out.1.lt kk e).1))
                         clear hown8 hgr8))
                    go_wp2
                    go_roundw
                    case rel => exact ⟨b + 1, by omega, by omega, by go_num, HB8, Lib.hid (by rw [lng_yes d (by rw [← HLK.out.2.1]; exact HNX.out), ← HLK.out.2.1, asI, List.map_append]; exact HR8.out)⟩
                    case measure => simp [intOf]; omega
                  | false =>
                    go_wp2
                    go_roundw
                    case rel => exact ⟨b + 1, by omega, by omega, by go_num, HBZ, Lib.hid (by rw [lng_no d (by rw [← HLK.out.2.1]; exact HNX.out)]; exact HRZ.out)⟩
                    case measure => simp [intOf]; omega
                · by_cases hy2 : y = (b : Int)
                  · have hcan : canB d k b = true := by rw [HCB.out, decide_eq_true hy2, Bool.or_true]
                    have dy : decide (0 ≤ y) = true := decide_eq_true (by omega)
                    have dy2 : (y != (b : Int)) = false := by rw [hy2]; simp
                    have HY2 := Lib.hid hy2
                    clear hy1 hy2
                    have hC : (fun W => W.cell? ⟨mb, mo + k, none⟩ = some (.int .i64 y) ∧ W.cell? ⟨b7, o7 + i, none⟩ = some (.slice (some ⟨bx, ox, none⟩) k cx) ∧ W.cell? ⟨bx, ox + kp, none⟩ = some (.int .i64 (la : Int)) ∧ W.cell? ⟨fb, fo + kp * 2, none⟩ = some (.int .i64 g1) ∧ W.cell? ⟨fb, fo + kp * 2 + 1, none⟩ = some (.int .i64 g2)) wr.drew := ⟨by simpa using cy, by simpa using HX.out.1 wr hby.out, by simpa using HXL.out wr hby.out, by simpa using (HG.out wr HBW.out).1, by simpa using (HG.out wr HBW.out).2⟩
                    have HB4 : Hid (Below w.heap.size w wr.drew) := Lib.hid HBW.out.drew
                    have HBK4 : Hid (Below wk.heap.size wk wr.drew) := Lib.hid hby.out.drew
                    have HR4 : Hid (RowsI wk.heap.size wr.drew (.slice a9 n9 c9) (asI (lng d k i b))) := Lib.hid (HR9.out.below (Below.refl wr.heap.size wr).drew)
                    have HFT : Hid (∀ W, Below w.heap.size w W → Calls Try.prog 101 #[.slice ra rl rc, .int .i64 (la : Int), .int .i64 (b : Int), .agg #[.int .i64 g1, .int .i64 g2]] W fun e w' => e = .returned (.bool (fitsB d.r la b (g1, g2))) ∧ Below W.heap.size W w') := Lib.hid fun W hW => HFI.out la b g1 g2 W hW (by omega) hb
                    clear cy HR9 hby
                    go_wp2_with fail
                    generalize hW0 : wr.drew = w4 at HB4 HBK4 HR4 hC
                    refine Lim.regC' (fun W => W.cell? ⟨mb, mo + k, none⟩ = some (.int .i64 y) ∧ W.cell? ⟨b7, o7 + i, none⟩ = some (.slice (some ⟨bx, ox, none⟩) k cx) ∧ W.cell? ⟨bx, ox + kp, none⟩ = some (.int .i64 (la : Int)) ∧ W.cell? ⟨fb, fo + kp * 2, none⟩ = some (.int .i64 g1) ∧ W.cell? ⟨fb, fo + kp * 2 + 1, none⟩ = some (.int .i64 g2)) [] #[false, false, false, false, false, false, false, false, false, false, false, false, false, false, false, false, false, false, false, false, false, false, false, false, false, false, false, false, false, false, false, false, false, false, false, false] (by kernel_rfl) rfl ?_
                    rw [hW0]; clear hW0
                    refine Lim.stepR 0 (fun _ => trivial) rfl (by kernel_rfl) (fun _ _ _ _ h => h) hC rfl ?_; apply Exists.intro; refine ⟨?_, ?_⟩
                    · rintro w ⟨r0, r1, r2, r3, r4⟩; go_simp; try with_reducible rfl
                    simp only [Act.put, List.setIfInBounds_toArray, List.set_cons_succ, List.set_cons_zero]
                    refine Lim.stepR 1 (fun _ => trivial) rfl (by kernel_rfl) (fun _ _ _ _ h => h) hC rfl ?_; apply Exists.intro; refine ⟨?_, ?_⟩
                    · rintro w ⟨r0, r1, r2, r3, r4⟩; go_simp; try with_reducible rfl
                    simp only [Act.put, List.setIfInBounds_toArray, List.set_cons_succ, List.set_cons_zero]
                    refine Lim.stepR 2 (fun _ => trivial) rfl (by kernel_rfl) (fun _ _ _ _ h => h) hC rfl ?_; apply Exists.intro; refine ⟨?_, ?_⟩
                    · rintro w ⟨r0, r1, r2, r3, r4⟩; go_simp; try with_reducible rfl
                    simp only [Act.put, List.setIfInBounds_toArray, List.set_cons_succ, List.set_cons_zero]
                    refine Lim.stepR 3 (fun _ => trivial) rfl (by kernel_rfl) (fun _ _ _ _ h => h) hC rfl ?_; apply Exists.intro; refine ⟨?_, ?_⟩
                    · rintro w ⟨r0, r1, r2, r3, r4⟩; go_simp; try with_reducible rfl
                    simp only [Act.put, List.setIfInBounds_toArray, List.set_cons_succ, List.set_cons_zero]
                    refine Lim.stepR 4 (fun _ => trivial) rfl (by kernel_rfl) (fun _ _ _ _ h => h) hC rfl ?_; apply Exists.intro; refine ⟨?_, ?_⟩
                    · rintro w ⟨r0, r1, r2, r3, r4⟩; go_simp; try with_reducible rfl
                    simp only [Act.put, List.setIfInBounds_toArray, List.set_cons_succ, List.set_cons_zero]
                    refine Lim.stepR 5 (fun _ => trivial) rfl (by kernel_rfl) (fun _ _ _ _ h => h) hC rfl ?_; apply Exists.intro; refine ⟨?_, ?_⟩
                    · rintro w ⟨r0, r1, r2, r3, r4⟩; go_simp; try with_reducible rfl
                    simp only [Act.put, List.setIfInBounds_toArray, List.set_cons_succ, List.set_cons_zero]
                    refine Lim.stepR 6 (fun _ => trivial) rfl (by kernel_rfl) (fun _ _ _ _ h => h) hC rfl ?_; apply Exists.intro; refine ⟨?_, ?_⟩
                    · rintro w ⟨r0, r1, r2, r3, r4⟩; go_simp; try with_reducible rfl
                    simp only [Act.put, List.setIfInBounds_toArray, List.set_cons_succ, List.set_cons_zero]
                    refine Lim.stepR 7 (fun _ => trivial) rfl (by kernel_rfl) (fun _ _ _ _ h => h) hC rfl ?_; apply Exists.intro; refine ⟨?_, ?_⟩
                    · rintro w ⟨r0, r1, r2, r3, r4⟩; go_simp; try with_reducible rfl
                    simp only [Act.put, List.setIfInBounds_toArray, List.set_cons_succ, List.set_cons_zero]
                    refine Lim.stepR 8 (fun _ => trivial) rfl (by kernel_rfl) (fun _ _ _ _ h => h) hC rfl ?_; apply Exists.intro; refine ⟨?_, ?_⟩
                    · rintro w ⟨r0, r1, r2, r3, r4⟩; go_simp; try with_reducible rfl
                    simp only [Act.put, List.setIfInBounds_toArray, List.set_cons_succ, List.set_cons_zero]
                    refine Lim.stepR 9 (fun _ => trivial) rfl (by kernel_rfl) (fun _ _ _ _ h => h) hC rfl ?_; apply Exists.intro; refine ⟨?_, ?_⟩
                    · rintro w ⟨r0, r1, r2, r3, r4⟩; go_simp; try with_reducible rfl
                    simp only [Act.put, List.setIfInBounds_toArray, List.set_cons_succ, List.set_cons_zero]
                    refine Lim.stepR 10 (fun _ => trivial) rfl (by kernel_rfl) (fun _ _ _ _ h => h) hC rfl ?_; apply Exists.intro; refine ⟨?_, ?_⟩
                    · rintro w ⟨r0, r1, r2, r3, r4⟩; go_simp; try with_reducible rfl
                    simp only [Act.put, List.setIfInBounds_toArray, List.set_cons_succ, List.set_cons_zero]
                    refine Lim.stepR 11 (fun _ => trivial) rfl (by kernel_rfl) (fun _ _ _ _ h => h) hC rfl ?_; apply Exists.intro; refine ⟨?_, ?_⟩
                    · rintro w ⟨r0, r1, r2, r3, r4⟩; go_simp; try with_reducible rfl
                    simp only [Act.put, List.setIfInBounds_toArray, List.set_cons_succ, List.set_cons_zero]
                    refine Lim.stepR 12 (fun _ => trivial) rfl (by kernel_rfl) (fun _ _ _ _ h => h) hC rfl ?_; apply Exists.intro; refine ⟨?_, ?_⟩
                    · rintro w ⟨r0, r1, r2, r3, r4⟩; go_simp; try with_reducible rfl
                    simp only [Act.put, List.setIfInBounds_toArray, List.set_cons_succ, List.set_cons_zero]
                    refine Lim.stepR 13 (fun _ => trivial) rfl (by kernel_rfl) (fun _ _ _ _ h => h) hC rfl ?_; apply Exists.intro; refine ⟨?_, ?_⟩
                    · rintro w ⟨r0, r1, r2, r3, r4⟩; go_simp; try with_reducible rfl
                    simp only [Act.put, List.setIfInBounds_toArray, List.set_cons_succ, List.set_cons_zero]
                    refine Lim.stepR 14 (fun _ => trivial) rfl (by kernel_rfl) (fun _ _ _ _ h => h) hC rfl ?_; apply Exists.intro; refine ⟨?_, ?_⟩
                    · rintro w ⟨r0, r1, r2, r3, r4⟩; go_simp; try with_reducible rfl
                    simp only [Act.put, List.setIfInBounds_toArray, List.set_cons_succ, List.set_cons_zero]
                    refine Lim.stepR 15 (fun _ => trivial) rfl (by kernel_rfl) (fun _ _ _ _ h => h) hC rfl ?_; apply Exists.intro; refine ⟨?_, ?_⟩
                    · rintro w ⟨r0, r1, r2, r3, r4⟩; go_simp; try with_reducible rfl
                    simp only [Act.put, List.setIfInBounds_toArray, List.set_cons_succ, List.set_cons_zero]
                    refine Lim.stepR 16 (fun _ => trivial) rfl (by kernel_rfl) (fun _ _ _ _ h => h) hC rfl ?_; apply Exists.intro; refine ⟨?_, ?_⟩
                    · rintro w ⟨r0, r1, r2, r3, r4⟩; go_simp; try with_reducible rfl
                    simp only [Act.put, List.setIfInBounds_toArray, List.set_cons_succ, List.set_cons_zero]
                    refine Lim.stepR 17 (fun _ => trivial) rfl (by kernel_rfl) (fun _ _ _ _ h => h) hC rfl ?_; apply Exists.intro; refine ⟨?_, ?_⟩
                    · rintro w ⟨r0, r1, r2, r3, r4⟩; go_simp; try with_reducible rfl
                    simp only [Act.put, List.setIfInBounds_toArray, List.set_cons_succ, List.set_cons_zero]
                    refine Lim.stepR 18 (fun _ => trivial) rfl (by kernel_rfl) (fun _ _ _ _ h => h) hC rfl ?_; apply Exists.intro; refine ⟨?_, ?_⟩
                    · rintro w ⟨r0, r1, r2, r3, r4⟩; go_simp; try with_reducible rfl
                    simp only [Act.put, List.setIfInBounds_toArray, List.set_cons_succ, List.set_cons_zero]
                    refine Lim.stepR 19 (fun _ => trivial) rfl (by kernel_rfl) (fun _ _ _ _ h => h) hC rfl ?_; apply Exists.intro; refine ⟨?_, ?_⟩
                    · rintro w ⟨r0, r1, r2, r3, r4⟩; go_simp; try with_reducible rfl
                    simp only [Act.put, List.setIfInBounds_toArray, List.set_cons_succ, List.set_cons_zero]
                    refine Lim.stepR 20 (fun _ => trivial) rfl (by kernel_rfl) (fun _ _ _ _ h => h) hC rfl ?_; apply Exists.intro; refine ⟨?_, ?_⟩
                    · rintro w ⟨r0, r1, r2, r3, r4⟩; go_simp; try with_reducible rfl
                    simp only [Act.put, List.setIfInBounds_toArray, List.set_cons_succ, List.set_cons_zero]
                    refine Lim.stepR 21 (fun _ => trivial) rfl (by kernel_rfl) (fun _ _ _ _ h => h) hC rfl ?_; apply Exists.intro; refine ⟨?_, ?_⟩
                    · rintro w ⟨r0, r1, r2, r3, r4⟩; go_simp; try with_reducible rfl
                    simp only [Act.put, List.setIfInBounds_toArray, List.set_cons_succ, List.set_cons_zero]
                    refine Lim.stepR 22 (fun _ => trivial) rfl (by kernel_rfl) (fun _ _ _ _ h => h) hC rfl ?_; apply Exists.intro; refine ⟨?_, ?_⟩
                    · rintro w ⟨r0, r1, r2, r3, r4⟩; go_simp; try with_reducible rfl
                    simp only [Act.put, List.setIfInBounds_toArray, List.set_cons_succ, List.set_cons_zero]
                    refine Lim.stepR 23 (fun _ => trivial) rfl (by kernel_rfl) (fun _ _ _ _ h => h) hC rfl ?_; apply Exists.intro; refine ⟨?_, ?_⟩
                    · rintro w ⟨r0, r1, r2, r3, r4⟩; go_simp; try with_reducible rfl
                    simp only [Act.put, List.setIfInBounds_toArray, List.set_cons_succ, List.set_cons_zero]
                    refine Lim.stepR 24 (fun _ => trivial) rfl (by kernel_rfl) (fun _ _ _ _ h => h) hC rfl ?_; apply Exists.intro; refine ⟨?_, ?_⟩
                    · rintro w ⟨r0, r1, r2, r3, r4⟩; go_simp; try with_reducible rfl
                    simp only [Act.put, List.setIfInBounds_toArray, List.set_cons_succ, List.set_cons_zero]
                    refine Lim.stepR 25 (fun _ => trivial) rfl (by kernel_rfl) (fun _ _ _ _ h => h) hC rfl ?_; apply Exists.intro; refine ⟨?_, ?_⟩
                    · rintro w ⟨r0, r1, r2, r3, r4⟩; go_simp; try with_reducible rfl
                    simp only [Act.put, List.setIfInBounds_toArray, List.set_cons_succ, List.set_cons_zero]
                    refine Lim.stepR 26 (fun _ => trivial) rfl (by kernel_rfl) (fun _ _ _ _ h => h) hC rfl ?_; apply Exists.intro; refine ⟨?_, ?_⟩
                    · rintro w ⟨r0, r1, r2, r3, r4⟩; go_simp; try with_reducible rfl
                    simp only [Act.put, List.setIfInBounds_toArray, List.set_cons_succ, List.set_cons_zero]
                    refine Lim.stepR 27 (fun _ => trivial) rfl (by kernel_rfl) (fun _ _ _ _ h => h) hC rfl ?_; apply Exists.intro; refine ⟨?_, ?_⟩
                    · rintro w ⟨r0, r1, r2, r3, r4⟩; go_simp; try with_reducible rfl
                    simp only [Act.put, List.setIfInBounds_toArray, List.set_cons_succ, List.set_cons_zero]
                    refine Lim.stepR 28 (fun _ => trivial) rfl (by kernel_rfl) (fun _ _ _ _ h => h) hC rfl ?_; apply Exists.intro; refine ⟨?_, ?_⟩
                    · rintro w ⟨r0, r1, r2, r3, r4⟩; go_simp; try with_reducible rfl
                    simp only [Act.put, List.setIfInBounds_toArray, List.set_cons_succ, List.set_cons_zero]
                    refine Lim.stepR 29 (fun _ => trivial) rfl (by kernel_rfl) (fun _ _ _ _ h => h) hC rfl ?_; apply Exists.intro; refine ⟨?_, ?_⟩
                    · rintro w ⟨r0, r1, r2, r3, r4⟩; go_simp; try with_reducible rfl
                    simp only [Act.put, List.setIfInBounds_toArray, List.set_cons_succ, List.set_cons_zero]
                    refine Lim.stepR 30 (fun _ => trivial) rfl (by kernel_rfl) (fun _ _ _ _ h => h) hC rfl ?_; apply Exists.intro; refine ⟨?_, ?_⟩
                    · rintro w ⟨r0, r1, r2, r3, r4⟩; go_simp; try with_reducible rfl
                    simp only [Act.put, List.setIfInBounds_toArray, List.set_cons_succ, List.set_cons_zero]
                    refine Lim.stepR 31 (fun _ => trivial) rfl (by kernel_rfl) (fun _ _ _ _ h => h) hC rfl ?_; apply Exists.intro; refine ⟨?_, ?_⟩
                    · rintro w ⟨r0, r1, r2, r3, r4⟩; go_simp; try with_reducible rfl
                    simp only [Act.put, List.setIfInBounds_toArray, List.set_cons_succ, List.set_cons_zero]
                    refine Lim.stepE 32 (fun _ => trivial) rfl (by kernel_rfl) rfl (fun K hK => ?_)   -- E call
                    go_simp
                    refine ⟨rfl, (callsIn_wide.2 (HFT.out _ HB4.out)).mono ?_⟩
                    rintro e w5 ⟨rfl, hb5⟩
                    have hC5 : (fun W => W.cell? ⟨mb, mo + k, none⟩ = some (.int .i64 y) ∧ W.cell? ⟨b7, o7 + i, none⟩ = some (.slice (some ⟨bx, ox, none⟩) k cx) ∧ W.cell? ⟨bx, ox + kp, none⟩ = some (.int .i64 (la : Int)) ∧ W.cell? ⟨fb, fo + kp * 2, none⟩ = some (.int .i64 g1) ∧ W.cell? ⟨fb, fo + kp * 2 + 1, none⟩ = some (.int .i64 g2)) w5 := ⟨hb5.on hC.1, hb5.on hC.2.1, hb5.on hC.2.2.1, hb5.on hC.2.2.2.1, hb5.on hC.2.2.2.2⟩
                    have HBZ : Hid (Below wk.heap.size wk w5) := Lib.hid (HBK4.out.trans (hb5.mono HBK4.out.size))
                    have HRZ : Hid (RowsI wk.heap.size w5 (.slice a9 n9 c9) (asI (lng d k i b))) := Lib.hid (HR4.out.below hb5)
                    clear hb5
                    refine hK _ _ hC5 ?_
                    simp only [Act.put, List.setIfInBounds_toArray, List.set_cons_succ, List.set_cons_zero]
                    refine Lim.stepR 33 (fun _ => trivial) rfl (by kernel_rfl) (fun _ _ _ _ h => h) hC5 rfl ?_; apply Exists.intro; refine ⟨?_, ?_⟩
                    · rintro w ⟨r0, r1, r2, r3, r4⟩; go_simp; try with_reducible rfl
                    simp only [Act.put, List.setIfInBounds_toArray, List.set_cons_succ, List.set_cons_zero]
                    refine Lim.stepR 34 (fun _ => trivial) rfl (by kernel_rfl) (fun _ _ _ _ h => h) hC5 rfl ?_; apply Exists.intro; refine ⟨?_, ?_⟩
                    · rintro w ⟨r0, r1, r2, r3, r4⟩; go_simp; try with_reducible rfl
                    simp only [Act.put, List.setIfInBounds_toArray, List.set_cons_succ, List.set_cons_zero]
                    refine Lim.stepR 35 (fun _ => trivial) rfl (by kernel_rfl) (fun _ _ _ _ h => h) hC5 rfl ?_; apply Exists.intro; refine ⟨?_, ?_⟩
                    · rintro w ⟨r0, r1, r2, r3, r4⟩; go_simp; try with_reducible rfl
                    simp only [Act.put, List.setIfInBounds_toArray, List.set_cons_succ, List.set_cons_zero]
                    refine Lim.stepD (by kernel_rfl) ?_
                    clear hC hC5
                    obtain ⟨z, hz⟩ : ∃ z, z = fitsB d.r la b (g1, g2) := ⟨_, rfl⟩
                    have HNX : Hid (nextB d k l b = z) := Lib.hid (by
                      rw [HNB.out b, hz]
                      rw [hcan, Bool.true_and, decide_eq_true (show la < b by omega), Bool.true_and])
                    rw [← hz]
                    clear hz
                    cases z with
                    | true =>
                      obtain ⟨wz, rfl⟩ : ∃ x, x = w5 := ⟨_, rfl⟩
                      have HAk : Hid (Below wz.heap.size wz (wz.alloc (.cells #[] 3))) := Lib.hid ((Below.refl _ wz).alloc (Nat.le_refl _) _)
                      obtain ⟨vs9, hv9, hx9⟩ := HRZ.out
                      rw [HN9.out] at hv9
                      have HV9 := Lib.hid (And.intro hv9 hx9)
                      have cxi : (wz.alloc (.cells #[] 3)).cell? ⟨b7, o7 + i, none⟩ = some (.slice (some ⟨bx, ox, none⟩) (k) cx) := HAk.out.on (HX.out.1 wz HBZ.out)
                      have HCC : Hid (∀ (j : Nat) (u : Value), (ints (l.map Int.ofNat))[j]? = some u → (wz.alloc (.cells #[] 3)).cell? ((⟨bx, ox, none⟩ : Addr).add j) = some u) := Lib.hid (fun j u hj => by rw [addr_add]; exact HAk.out.on (HX.out.2 wz HBZ.out j u hj))
                      clear hv9 hx9
                      go_wp2_with (at_builtin; first
                        | (refine wpList_append_own _ rfl _ _ 22 rfl wz.heap.size 3 i0 (.int .i64 0) 1 8 Try.underlying22 HI.out.1 HI.out.2.1 HI.out.2.2.1 HI.out.2.2.2 rfl (by decide) (.slice (some ⟨wz.heap.size, 0, none⟩) 0 0) 0 [] rfl (owns_empty wz (Nat.le_refl _) _) ⟨bx, ox, none⟩ (k) cx (ints (l.map Int.ofNat)) rfl (by have := HLK.out.1; simp [ints]; omega) HCC.out (ints_one _) (by unfold maxLen; omega) (by omega) (by simp) ?_
                           intro v5 w5 hown5 hgr5 _
                           have HB5 : Hid (Below wz.heap.size wz w5) := Lib.hid (HAk.out.grown hgr5 (by simp) (fun kk e => by cases e; exact Nat.le_refl _))
                           have HO5 : Hid (w5.ownsRow wz.heap.size 3 1 v5 (k) (ints (l.map Int.ofNat))) := Lib.hid (by simpa using hown5)
                           clear hown5 hgr5)
                        | (refine wpList_append_own _ rfl _ _ 22 rfl wz.heap.size 3 i0 (.int .i64 0) 1 8 Try.underlying22 HI.out.1 HI.out.2.1 HI.out.2.2.1 HI.out.2.2.2 rfl (by decide) v5 (k) (ints (l.map Int.ofNat)) rfl (HO5.out.alloc _) ⟨w5.heap.size, 0, none⟩ 1 1 [.int .i64 (b : Int)] rfl rfl (cell_one_new _ _ _) (by simp [Value.oneCell']) (by unfold maxLen; omega) (by omega) (by have := HB5.out.size; simp; omega) ?_
                           intro v6 w6 hown6 hgr6 _
                           have HB6 : Hid (Below wz.heap.size wz w6) := Lib.hid ((HB5.out.alloc HB5.out.size _).grown hgr6 (by have := HB5.out.size; simp; omega) (fun kk e => by have := (HO5.out.lt kk e).1; omega))
                           have HO6 : Hid (w6.ownsRow wz.heap.size 3 1 v6 (k + 1) (ints ((l ++ [b]).map Int.ofNat))) := Lib.hid (by simpa [ints] using hown6)
                           obtain ⟨a6, c6, rfl, -⟩ := RS.of_owns HO6.out
                           have HA6 : Hid (Below w6.heap.size w6 (w6.alloc (.cells #[.slice a6 (k + 1) c6] 22))) := Lib.hid ((Below.refl _ w6).alloc (Nat.le_refl _) _)
                           have HS6 : Hid (wk.heap.size ≤ w6.heap.size) := Lib.hid (by have := HB6.out.size; have := HBZ.out.size; omega)
                           clear hown6 hgr6 cxi)
                        | (refine wpList_append_own _ rfl _ _ 48 rfl wk.heap.size 22 i1 (.slice none 0 0) 1 24 Try.underlying48 HIR.out.1 HIR.out.2.1 HIR.out.2.2.1 HIR.out.2.2.2 rfl (by decide) (.slice a9 n9 c9) n9 vs9 rfl ((owns_below HV9.out.1 HB6.out).alloc _) ⟨w6.heap.size, 0, none⟩ 1 1 [.slice a6 (k + 1) c6] rfl rfl (cell_one_new _ _ _) (by simp [Value.oneCell']) (by unfold maxLen; omega) (by omega) (by have := HS6.out; simp; omega) ?_
                           intro v8 w8 hown8 hgr8 _
                           have HR8 : Hid (RowsI wk.heap.size w8 v8 (asI (lng d k i b) ++ [(l ++ [b]).map Int.ofNat])) := Lib.hid (by
                             refine RowsI.add (W := w6.alloc (.cells #[.slice a6 (k + 1) c6] 22)) (v := .slice a9 n9 c9) (vs := vs9) (x := .slice a6 (k + 1) c6) (by rw [HN9.out]; exact owns_below (owns_below HV9.out.1 HB6.out) HA6.out) (fun x l hx => let ⟨y, e, h3⟩ := HV9.out.2 x l hx; ⟨y, e, owns_below (owns_below h3 HB6.out) HA6.out⟩) ?_ (by rw [HN9.out]; exact hown8) hgr8
                             have h := owns_mono (owns_below HO6.out HA6.out) HBZ.out.size
                             rw [show ((l ++ [b]).map Int.ofNat).length = k + 1 by have := HLK.out.1; simp; omega]
                             exact h)
                           have HB8 : Hid (Below wk.heap.size wk w8) := Lib.hid (((HBZ.out.trans (HB6.out.mono HBZ.out.size)).trans (HA6.out.mono HS6.out)).grown hgr8 (by have := HS6.out; simp; omega) (fun kk e => (HV9.out.1.lt kk e).1))
                           clear hown8 hgr8))
                      go_wp2
                      go_roundw
                      case rel => exact ⟨b + 1, by omega, by omega, by go_num, HB8, Lib.hid (by rw [lng_yes d (by rw [← HLK.out.2.1]; exact HNX.out), ← HLK.out.2.1, asI, List.map_append]; exact HR8.out)⟩
                      case measure => simp [intOf]; omega
                    | false =>
                      go_wp2
                      go_roundw
                      case rel => exact ⟨b + 1, by omega, by omega, by go_num, HBZ, Lib.hid (by rw [lng_no d (by rw [← HLK.out.2.1]; exact HNX.out)]; exact HRZ.out)⟩
                      case measure => simp [intOf]; omega
                  · have hcan : canB d k b = false := by rw [HCB.out, decide_eq_false hy1, decide_eq_false hy2]; rfl
                    have dy : decide (0 ≤ y) = true := decide_eq_true (by omega)
                    have dy2 : (y != (b : Int)) = true := by rw [bne_iff_ne]; exact hy2
                    go_wp2_with fail
                    go_quiet (fail)
                    have HBZ : Hid (Below wk.heap.size wk (wr.drewN nq)) := Lib.hid (below_drewN hby.out nq)
                    have HRZ : Hid (RowsI wk.heap.size (wr.drewN nq) (.slice a9 n9 c9) (asI (lng d k i b))) := Lib.hid (HR9.out.below (below_drewN (Below.refl wr.heap.size wr) nq))
                    clear cy HR9 hby
                    generalize wr.drewN nq = wz at HBZ HRZ ⊢
                    have HNX : Hid (nextB d k l b = false) := Lib.hid (by rw [HNB.out b, hcan, Bool.false_and])
                    go_wp2
                    go_roundw
                    case rel => exact ⟨b + 1, by omega, by omega, by go_num, HBZ, Lib.hid (by rw [lng_no d (by rw [← HLK.out.2.1]; exact HNX.out)]; exact HRZ.out)⟩
                    case measure => simp [intOf]; omega
              · have hbr2 : b = rl + 1 := by omega
                subst hbr2
                have db : decide (rl + 1 ≤ rl) = false := decide_eq_false (by omega)
                have db' : decide ((rl : Int) + 1 ≤ (rl : Int)) = false := decide_eq_false (by omega)
                go_wp2
                go_roundw
                case rel => exact ⟨i + 1, by omega, by go_num, hby, Lib.hid (by rw [← lng_next d (by have := HLK.out.2.2.1; omega), ← HN.out.1]; exact HR9.out)⟩
                case measure => simp [intOf]; omega
        · have hin2 : n7 = i := by omega
          subst hin2
          go_wp2
          go_roundw
          case rel => exact ⟨k + 1, by omega, by go_num, Lib.hid (hbk.out.trans (hbm.out.mono hbk.out.size)), Lib.hid (RowsS.of_rows (by rw [← lng_all, ← HN7.out]; exact hr9.out) (fun l hl e => by have := (rdl_len hl).1; rw [e] at this; simp at this))⟩
          case measure => simp [intOf]; omega
    · have hkm : ml = k := by omega
      subst hkm
      have HRW := hrw
      go_wp2
      go_ret
      exact ⟨_, rfl, HRW.out, hbk.out⟩
end Go.Proofs.Ytobmhamdkngehaa
