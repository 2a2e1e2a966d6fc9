/-
  Parts of the proof, in the order in which they build: RtC, RtD.
-/
import Derived.Test.YtobmhamdkngehaaA35
import Derived.Test.YtobmhamdkngehaaA6
import Derived.Test.YtobmhamdkngehaaA10
import Derived.Test.YtobmhamdkngehaaA19
set_option linter.unusedVariables false
set_option linter.unusedSimpArgs false
/-
  How many readings there are, and which numbers stones can have, as the reference finds them: the contracts of its Readings and Numbers.
-/
namespace Go.Proofs.Ytobmhamdkngehaa
open Go.RowKit Go.Shelf
open Lim

set_option maxRecDepth 20000 in
set_option maxHeartbeats 2000000 in
theorem rReadings_any {B : Nat} {d : Rd} {rv fv mv : Value} {w : World} (hB : B ≤ w.heap.size) (hr : RS B w rv d.r.length (spans d.r)) (hf : RS B w fv d.f.length (spans d.f)) (hm : RS B w mv d.m.length (ints d.m)) (hl : d.f.length ≤ 1000) (h8 : d.err = 0 → d.r.length ≤ 8 ∧ d.m.length ≤ 5) :
    Calls Try.prog 24 #[rv, fv, mv] w fun e w' => e = .returned (readAns d) ∧ Below w.heap.size w w' := by
  have HR := Lib.hid (And.intro hB (And.intro hr (And.intro hf (And.intro hm (And.intro hl h8)))))
  obtain ⟨ra, rc, rfl, -⟩ := hr
  obtain ⟨fa, fc, rfl, -⟩ := hf
  obtain ⟨ma, mc, rfl, -⟩ := hm
  obtain ⟨rl, hrl⟩ : ∃ x, x = d.r.length := ⟨_, rfl⟩
  obtain ⟨fl, hfl⟩ : ∃ x, x = d.f.length := ⟨_, rfl⟩
  obtain ⟨ml, hml⟩ : ∃ x, x = d.m.length := ⟨_, rfl⟩
  have HN := Lib.hid (And.intro hrl (And.intro hfl hml))
  have HST : Hid (∀ W, Below w.heap.size w W → Calls Try.prog 70 #[.slice ra rl rc, .slice fa fl fc, .slice ma ml mc] W fun e w' => e = .returned (.int .i64 d.err) ∧ Below W.heap.size W w') := Lib.hid fun W hW => by
    rw [hrl, hfl, hml]
    exact rStones_any (Nat.le_trans HR.out.1 hW.size) (HR.out.2.1.below (hW.mono HR.out.1)) (HR.out.2.2.1.below (hW.mono HR.out.1)) (HR.out.2.2.2.1.below (hW.mono HR.out.1)) HR.out.2.2.2.2.1
  have HLI : Hid (d.err = 0 → ∀ W, Below w.heap.size w W → Calls Try.prog 71 #[.slice ra rl rc, .slice fa fl fc, .slice ma ml mc] W fun e w' => ∃ v, e = .returned v ∧ RowsS w' v (rdl d d.m.length) ∧ Below W.heap.size W w') := Lib.hid fun he W hW => by
    have h1 := asked_ok he
    have h2 := HR.out.2.2.2.2.2 he
    rw [hrl, hfl, hml]
    exact rlists_any (Nat.le_trans HR.out.1 hW.size) (HR.out.2.1.below (hW.mono HR.out.1)) (HR.out.2.2.1.below (hW.mono HR.out.1)) (HR.out.2.2.2.1.below (hW.mono HR.out.1)) h1.rr.ok h2.1 h2.2 (by have := h1.fm; omega) (fun x hx => (asked_nm he x hx).1)
  rw [← hrl, ← hfl, ← hml]
  clear hrl hfl hml hB hl h8
  go_enter Try.func24, Try.ntmps24
  go_wp2_with fail
  refine (HST.out _ (Below.refl _ _)).mono ?_
  rintro e w1 ⟨rfl, hb1⟩
  have HB1 := Lib.hid hb1
  clear hb1 HST
  obtain ⟨er, her⟩ : ∃ x, x = d.err := ⟨_, rfl⟩
  rw [← her]
  have HER := Lib.hid her
  by_cases he : er = 0
  · have d1 : (er != 0) = false := by rw [he]; rfl
    have HE : Hid (d.err = 0) := Lib.hid (by rw [← her, he])
    clear he her
    go_wp2_with fail
    refine (HLI.out HE.out _ HB1.out).mono ?_
    rintro e w2 ⟨v, rfl, hrw, hb2⟩
    obtain ⟨a7, c7, rfl, -⟩ := hrw
    obtain ⟨n7, hn7⟩ : ∃ x, x = (rdl d d.m.length).length := ⟨_, rfl⟩
    rw [← hn7]
    have HB2 : Hid (Below w.heap.size w w2) := Lib.hid (HB1.out.trans (hb2.mono HB1.out.size))
    have HA : Hid (readAns d = .tuple #[.int .i64 (n7 : Int), .int .i64 0]) := Lib.hid (by
      unfold readAns
      rw [if_neg (fun h => h HE.out), hn7, rdl_total (asked_ok HE.out).m1])
    clear hb2 hn7
    go_wp2
    go_ret2
    exact ⟨by rw [HA.out]; rfl, HB2.out⟩
  · have d1 : (er != 0) = true := by rw [bne_iff_ne]; exact he
    have HNE : Hid (d.err ≠ 0 ∧ d.err = er) := Lib.hid ⟨by rw [← her]; exact he, her.symm⟩
    clear her he
    have HA : Hid (readAns d = .tuple #[.int .i64 0, .int .i64 er]) := Lib.hid (by unfold readAns; rw [if_pos HNE.out.1, HNE.out.2])
    go_wp2
    go_ret2
    exact ⟨by rw [HA.out]; rfl, HB1.out⟩
/-- whether one of the first i readings has stone k at b -/
def anyTo (d : Rd) (k b i : Nat) : Bool := ((rdl d d.m.length).take i).any fun l => l.getD k 0 == b
theorem anyTo_succ {d : Rd} {k b i : Nat} {l : List Nat} (h : (rdl d d.m.length)[i]? = some l) : anyTo d k b (i + 1) = (anyTo d k b i || (l.getD k 0 == b)) := by
  unfold anyTo
  have hi := (List.getElem?_eq_some_iff.1 h).1
  rw [List.take_succ_eq_append_getElem hi, List.any_append, (List.getElem?_eq_some_iff.1 h).2]
  simp
theorem rd_len {d : Rd} (h : d.err = 0) : RdLen d := ⟨(asked_ok h).m1, (asked_ok h).fm, asked_nm h⟩
theorem anyTo_nums {d : Rd} (h : d.err = 0) {k b : Nat} (hk : k < d.m.length) (hb : b ≤ d.r.length) : anyTo d k b (rdl d d.m.length).length = true ↔ (0 < tabTo d d.m.length 0 k b ∧ 0 < behT d k b) := by
  rw [nums_rdl (rd_len h) hk hb]
  unfold anyTo
  rw [List.take_length, List.any_eq_true]
  constructor
  · rintro ⟨l, h1, h2⟩; exact ⟨l, h1, by simpa using h2⟩
  · rintro ⟨l, h1, h2⟩; exact ⟨l, h1, by simpa using h2⟩
theorem no_rd {d : Rd} (h : d.err = 0) (h0 : (rdl d d.m.length).length = 0) : ∃ k, k < d.m.length ∧ nums d k = [] := by
  refine ⟨0, (asked_ok h).m1, ?_⟩
  unfold nums numsTo
  rw [List.map_eq_nil_iff, List.filter_eq_nil_iff]
  intro y hy
  have hy := List.mem_range.1 hy
  have h2 := nums_rdl (rd_len h) (asked_ok h).m1 (show y ≤ d.r.length by omega)
  intro h3
  rw [Bool.and_eq_true, decide_eq_true_eq, decide_eq_true_eq] at h3
  obtain ⟨l, h4, -⟩ := h2.1 h3
  rw [List.eq_nil_of_length_eq_zero h0] at h4
  cases h4
theorem all_rd {d : Rd} (h : d.err = 0) (h0 : (rdl d d.m.length).length ≠ 0) {k : Nat} (hk : k < d.m.length) : nums d k ≠ [] := by
  obtain ⟨l, hl⟩ := List.exists_mem_of_length_pos (Nat.pos_of_ne_zero h0)
  intro e
  unfold nums numsTo at e
  rw [List.map_eq_nil_iff, List.filter_eq_nil_iff] at e
  have hlen := rdl_len hl
  have hkl : k < l.length := by omega
  have hb : l.getD k 0 ≤ d.r.length := by rw [List.getD_eq_getElem?_getD, List.getElem?_eq_getElem hkl]; exact hlen.2 _ (List.getElem_mem hkl)
  have h2 := (nums_rdl (rd_len h) hk hb).2 ⟨l, hl, rfl⟩
  exact e _ (List.mem_range.2 (Nat.lt_succ_of_le hb)) (by rw [decide_eq_true h2.1, decide_eq_true h2.2]; rfl)
set_option maxRecDepth 20000 in
set_option maxHeartbeats 4000000 in
theorem rNumbers_any {B : Nat} {d : Rd} {rv fv mv : Value} {w : World} (hB : B ≤ w.heap.size) (hr : RS B w rv d.r.length (spans d.r)) (hf : RS B w fv d.f.length (spans d.f)) (hm : RS B w mv d.m.length (ints d.m)) (hl : d.f.length ≤ 1000) (h8 : d.err = 0 → d.r.length ≤ 8 ∧ d.m.length ≤ 5) :
    Calls Try.prog 26 #[rv, fv, mv] w fun e w' => ∃ v er, e = .returned (.tuple #[v, .int .i64 er]) ∧ Below w.heap.size w w' ∧ NumAns d w.heap.size v er w' := by
  have HR := Lib.hid (And.intro hB (And.intro hr (And.intro hf (And.intro hm (And.intro hl h8)))))
  obtain ⟨ra, rc, rfl, -⟩ := hr
  obtain ⟨fa, fc, rfl, -⟩ := hf
  obtain ⟨ma, mc, rfl, -⟩ := hm
  obtain ⟨rl, hrl⟩ : ∃ x, x = d.r.length := ⟨_, rfl⟩
  obtain ⟨fl, hfl⟩ : ∃ x, x = d.f.length := ⟨_, rfl⟩
  obtain ⟨ml, hml⟩ : ∃ x, x = d.m.length := ⟨_, rfl⟩
  have HN := Lib.hid (And.intro hrl (And.intro hfl hml))
  have HST : Hid (∀ W, Below w.heap.size w W → Calls Try.prog 70 #[.slice ra rl rc, .slice fa fl fc, .slice ma ml mc] W fun e w' => e = .returned (.int .i64 d.err) ∧ Below W.heap.size W w') := Lib.hid fun W hW => by
    rw [hrl, hfl, hml]
    exact rStones_any (Nat.le_trans HR.out.1 hW.size) (HR.out.2.1.below (hW.mono HR.out.1)) (HR.out.2.2.1.below (hW.mono HR.out.1)) (HR.out.2.2.2.1.below (hW.mono HR.out.1)) HR.out.2.2.2.2.1
  have HLI : Hid (d.err = 0 → ∀ W, Below w.heap.size w W → Calls Try.prog 71 #[.slice ra rl rc, .slice fa fl fc, .slice ma ml mc] W fun e w' => ∃ v, e = .returned v ∧ RowsS w' v (rdl d d.m.length) ∧ Below W.heap.size W w') := Lib.hid fun he W hW => by
    have h1 := asked_ok he
    have h2 := HR.out.2.2.2.2.2 he
    rw [hrl, hfl, hml]
    exact rlists_any (Nat.le_trans HR.out.1 hW.size) (HR.out.2.1.below (hW.mono HR.out.1)) (HR.out.2.2.1.below (hW.mono HR.out.1)) (HR.out.2.2.2.1.below (hW.mono HR.out.1)) h1.rr.ok h2.1 h2.2 (by have := h1.fm; omega) (fun x hx => (asked_nm he x hx).1)
  rw [← hrl, ← hfl, ← hml]
  clear hrl hfl hml hB hl h8
  obtain ⟨i0, hi0, hz0, hz1, hz2⟩ := info_parts Try.infoInt
  have HIN := Lib.hid (And.intro hi0 (And.intro hz0 (And.intro hz1 hz2)))
  obtain ⟨i1, hj, hy0, hy1, hy2⟩ := info_parts infoRow
  have HIR := Lib.hid (And.intro hj (And.intro hy0 (And.intro hy1 hy2)))
  clear hi0 hz0 hz1 hz2 hj hy0 hy1 hy2
  go_enter Try.func26, Try.ntmps26
  go_wp2_with fail
  refine (HST.out _ (Below.refl _ _)).mono ?_
  rintro e w1 ⟨rfl, hb1⟩
  have HB1 := Lib.hid hb1
  clear hb1 HST
  obtain ⟨er, her⟩ : ∃ x, x = d.err := ⟨_, rfl⟩
  rw [← her]
  have HER := Lib.hid her
  by_cases he : er = 0
  · have d1 : (er != 0) = false := by rw [he]; rfl
    have HE : Hid (d.err = 0) := Lib.hid (by rw [← her, he])
    clear he her
    go_wp2_with fail
    refine (HLI.out HE.out _ HB1.out).mono ?_
    rintro e w6 ⟨v, rfl, hrw, hb6⟩
    have HRW := Lib.hid hrw
    obtain ⟨a7, c7, rfl, h7⟩ := hrw
    have H7 := Lib.hid h7
    obtain ⟨n7, hn7⟩ : ∃ x, x = (rdl d d.m.length).length := ⟨_, rfl⟩
    rw [← hn7]
    have HB6 : Hid (Below w.heap.size w w6) := Lib.hid (HB1.out.trans (hb6.mono HB1.out.size))
    have HN7 := Lib.hid hn7
    have h88 := HR.out.2.2.2.2.2 HE.out
    have r8 : rl ≤ 8 := by have := HN.out; omega
    have m5 : ml ≤ 5 := by have := HN.out; omega
    have n512 : n7 ≤ 512 := by
      have h3 := rdl_bound d d.m.length
      have h4 : 2 ^ (d.r.length + 1) ≤ 2 ^ 9 := Nat.pow_le_pow_right (by omega) (by omega)
      have h5 : (2 : Nat) ^ 9 = 512 := rfl
      omega
    clear hb6 hn7 h7 HLI h88
    by_cases h0 : n7 = 0
    · subst h0
      obtain ⟨k, hk⟩ := no_rd HE.out HN7.out.symm
      have HK := Lib.hid hk
      clear hk
      go_wp2
      go_ret2
      exact ⟨_, _, rfl, HB6.out, .inr (.inl ⟨HE.out, ⟨k, HK.out⟩, rfl, rfl⟩)⟩
    · have d2 : ((n7 : Int) == 0) = false := beq_eq_false_iff_ne.2 (by omega)
      obtain ⟨b7, o7, rfl, hb7, h7⟩ := H7.out (fun e => h0 (by rw [HN7.out, e]; rfl))
      have HALL : Hid (∀ k, k < ml → nums d k ≠ []) := Lib.hid (fun k hk => all_rd HE.out (by rw [← HN7.out]; exact h0) (by have := HN.out; omega))
      have HX : Hid (∀ i, i < n7 → ∃ l bx ox cx, (rdl d d.m.length)[i]? = some l ∧ (∀ W, Below w6.heap.size w6 W → W.cell? ⟨b7, o7 + i, none⟩ = some (.slice (some ⟨bx, ox, none⟩) ml cx) ∧ ∀ k, k < ml → W.cell? ⟨bx, ox + k, none⟩ = some (.int .i64 (l.getD k 0 : Nat)))) := Lib.hid (fun i hi => by
        have hil : i < (rdl d d.m.length).length := by rw [← HN7.out]; exact hi
        have hl2 := List.getElem?_eq_getElem hil
        obtain ⟨bx, ox, cx, h8, h9, h10⟩ := h7 i _ hl2
        have hlen := (rdl_len (List.getElem_mem hil)).1
        rw [hlen, ← HN.out.2.2] at h8
        exact ⟨_, bx, ox, cx, hl2, fun W hW => ⟨hW.on h8, fun k hk => hW.on (h10 k _ (nats_at (by have := HN.out; omega)))⟩⟩)
      clear h0 h7 hb7 H7
      go_wp2_with fail
      go_loopw [10, 11] (fun ov kv W => ∃ k : Nat, k ≤ ml ∧ kv = .int .i64 (k : Int) ∧ Hid (Below w6.heap.size w6 W) ∧ Hid (RowsI w6.heap.size W ov ((List.range k).map (nums d)))) (fun _ kv _ => ml - (intOf kv).toNat)
      case atStart => exact ⟨0, Nat.zero_le _, rfl, Lib.hid (Below.refl _ _), Lib.hid (RowsI.nil _ _)⟩
      case round =>
        obtain ⟨k, hk, rfl, HBk, HRk⟩ := hrel
        obtain ⟨wo, rfl⟩ : ∃ x, x = wr := ⟨_, rfl⟩
        have k64 : k < 100 := by omega
        by_cases hlt : k < ml
        · go_wp2_with fail
          go_loopw [12, 13] (fun lv bv W => ∃ b : Nat, b ≤ rl + 1 ∧ bv = .int .i64 (b : Int) ∧ Hid (Below wo.heap.size wo W) ∧ Hid (W.ownsRow wo.heap.size 3 1 lv (numsTo d k b).length (ints (numsTo d k b)))) (fun _ bv _ => rl + 1 - (intOf bv).toNat)
          case atStart => exact ⟨0, Nat.zero_le _, rfl, Lib.hid (Below.refl _ _), Lib.hid (ownsRow_zero _ _ _ _)⟩
          case round =>
            obtain ⟨b, hb, rfl, HBb, HLb⟩ := hrel
            obtain ⟨wb, rfl⟩ : ∃ x, x = wr := ⟨_, rfl⟩
            have b64 : b < 100 := by omega
            obtain ⟨la, lc, rfl⟩ : ∃ a c, u12 = .slice a (numsTo d k b).length c := by
              rcases HLb.out.2 with ⟨e1, e2⟩ | ⟨g, cap, cur, e1, -⟩
              · exact ⟨none, 0, by rw [e1, e2]⟩
              · exact ⟨_, cap, e1⟩
            obtain ⟨L, hL⟩ : ∃ L, L = numsTo d k b := ⟨_, rfl⟩
            have HLN : Hid (L = numsTo d k b ∧ L.length ≤ b) := Lib.hid ⟨hL, by rw [hL]; exact numsTo_len d k b⟩
            rw [← hL] at HLb ⊢
            obtain ⟨ll, hll⟩ : ∃ x, x = L.length := ⟨_, rfl⟩
            rw [← hll] at HLb ⊢
            have HLL := Lib.hid hll
            clear hL hll
            by_cases hlb : b ≤ rl
            · have g2 : decide (b ≤ rl) = true := decide_eq_true hlb
              have g2' : decide ((b : Int) ≤ (rl : Int)) = true := decide_eq_true (by omega)
              have HANY := Lib.hid (anyTo_nums HE.out (k := k) (b := b) (by have := HN.out; omega) (by have := HN.out; omega))
              go_wp2_with fail
              go_loopw [14, 15] (fun zv iv W => ∃ i : Nat, i ≤ n7 ∧ iv = .int .i64 (i : Int) ∧ zv = .bool (anyTo d k b i) ∧ Hid (Below wb.heap.size wb W)) (fun _ iv _ => n7 - (intOf iv).toNat)
              case atStart => exact ⟨0, Nat.zero_le _, rfl, rfl, Lib.hid (Below.refl _ _)⟩
              case round =>
                obtain ⟨i, hi, rfl, rfl, hbi⟩ := hrel
                have i64 : i < 1000 := by omega
                have HB6i : Hid (Below w6.heap.size w6 wr) := Lib.hid ((HBk.out.trans (HBb.out.mono HBk.out.size)).trans (hbi.out.mono (Nat.le_trans HBk.out.size HBb.out.size)))
                by_cases hin : i < n7
                · obtain ⟨l, bx, ox, cx, hl, hcs⟩ := HX.out i hin
                  have HS : Hid (anyTo d k b (i + 1) = (anyTo d k b i || (l.getD k 0 == b))) := Lib.hid (anyTo_succ hl)
                  have c1 := (hcs wr HB6i.out).1
                  have c2 := (hcs wr HB6i.out).2 k hlt
                  obtain ⟨x, hx⟩ : ∃ x, x = l.getD k 0 := ⟨_, rfl⟩
                  rw [← hx] at c2 HS
                  obtain ⟨z, hz⟩ : ∃ z, z = anyTo d k b i := ⟨_, rfl⟩
                  rw [← hz] at HS ⊢
                  clear hl hcs hx hz
                  cases z with
                  | true =>
                    go_wp2
                    go_roundw
                    case rel => exact ⟨i + 1, by omega, by go_num, by rw [HS.out]; rfl, hbi⟩
                    case measure => simp [intOf]; omega
                  | false =>
                    have de : ((x : Int) == (b : Int)) = (x == b) := by
                      rw [Bool.eq_iff_iff, beq_iff_eq, beq_iff_eq]; omega
                    obtain ⟨z2, hz2⟩ : ∃ z, z = (x == b) := ⟨_, rfl⟩
                    rw [← hz2] at de HS
                    clear hz2
                    go_wp2
                    go_roundw
                    case rel => exact ⟨i + 1, by omega, by go_num, by rw [HS.out]; rfl, hbi⟩
                    case measure => simp [intOf]; omega
                · have hin2 : n7 = i := by omega
                  subst hin2
                  obtain ⟨z, hz⟩ : ∃ z, z = anyTo d k b n7 := ⟨_, rfl⟩
                  have HZ : Hid (z = true ↔ (0 < tabTo d d.m.length 0 k b ∧ 0 < behT d k b)) := Lib.hid (by rw [hz, HN7.out]; exact HANY.out)
                  rw [← hz]
                  clear hz HANY
                  have HBI : Hid (Below wo.heap.size wo wr) := Lib.hid (HBb.out.trans (hbi.out.mono HBb.out.size))
                  have HLI : Hid (wr.ownsRow wo.heap.size 3 1 (.slice la ll lc) ll (ints L)) := Lib.hid (owns_below HLb.out hbi.out)
                  cases z with
                  | true =>
                    have HS : Hid (numsTo d k (b + 1) = L ++ [(b : Int)]) := Lib.hid (by rw [HLN.out.1]; exact numsTo_add (HZ.out.1 rfl).1 (HZ.out.1 rfl).2)
                    have h1u : ∀ u ∈ [Value.int .i64 (b : Int)], u.oneCell' = true := by simp [Value.oneCell']
                    go_wp2_with (at_builtin; refine wpList_append_own _ rfl _ _ 22 rfl wo.heap.size 3 i0 (.int .i64 0) 1 8 Try.underlying22 HIN.out.1 HIN.out.2.1 HIN.out.2.2.1 HIN.out.2.2.2 rfl (by decide) (.slice la ll lc) ll (ints L) rfl (HLI.out.alloc _) ⟨wr.heap.size, 0, none⟩ 1 1 [.int .i64 b] rfl rfl (cell_one_new _ _ _) h1u (by have := HLN.out; have := HLL.out; unfold maxLen; omega) (by have := HLN.out; have := HLL.out; omega) (by have := HBI.out.size; simp; omega) ?_; intro v' w3 hown hgr _)
                    have HB3 : Hid (Below wo.heap.size wo w3) := Lib.hid ((HBI.out.alloc HBI.out.size _).grown hgr (by have := HBI.out.size; simp; omega) (fun k e => (HLI.out.lt k e).1))
                    have HO3 : Hid (w3.ownsRow wo.heap.size 3 1 v' (numsTo d k (b + 1)).length (ints (numsTo d k (b + 1)))) := Lib.hid (by rw [HS.out, List.length_append, ← HLL.out]; simpa [ints] using hown)
                    clear hown hgr
                    go_wp2
                    go_roundw
                    case rel => exact ⟨b + 1, by omega, by go_num, HB3, HO3⟩
                    case measure => simp [intOf]; omega
                  | false =>
                    have HS : Hid (numsTo d k (b + 1) = L) := Lib.hid (by rw [HLN.out.1]; exact numsTo_skip (fun h => by have := HZ.out.2 h; cases this))
                    have HO3 : Hid (wr.ownsRow wo.heap.size 3 1 (.slice la ll lc) (numsTo d k (b + 1)).length (ints (numsTo d k (b + 1)))) := Lib.hid (by rw [HS.out, ← HLL.out]; exact HLI.out)
                    go_wp2
                    go_roundw
                    case rel => exact ⟨b + 1, by omega, by go_num, HBI, HO3⟩
                    case measure => simp [intOf]; omega
            · have hbr2 : b = rl + 1 := by omega
              subst hbr2
              have g2 : decide (rl + 1 ≤ rl) = false := decide_eq_false (by omega)
              have g2' : decide ((rl : Int) + 1 ≤ (rl : Int)) = false := decide_eq_false (by omega)
              have HNU : Hid (nums d k = L) := Lib.hid (by rw [nums, HLN.out.1, HN.out.1])
              obtain ⟨vs, hvs, hel⟩ := HRk.out
              have HVS := Lib.hid (And.intro hvs hel)
              clear hvs hel
              obtain ⟨oa, oc, rfl⟩ : ∃ a c, u10 = .slice a k c := by
                have h := HVS.out.1
                rw [List.length_map, List.length_range] at h
                rcases h.2 with ⟨e1, e2⟩ | ⟨g, cap, cur, e1, -⟩
                · exact ⟨none, 0, by rw [e1, e2]⟩
                · exact ⟨some ⟨g, 0, none⟩, cap, e1⟩
              have HV2 : Hid (wb.ownsRow w6.heap.size 22 1 (.slice oa k oc) k vs ∧ (∀ (x : Nat) (l : List Int), ((List.range k).map (nums d))[x]? = some l → ∃ y, vs[x]? = some y ∧ wb.ownsRow w6.heap.size 3 1 y l.length (ints l)) ∧ w6.heap.size ≤ wb.heap.size) := Lib.hid (by
                have h := HVS.out.1
                rw [List.length_map, List.length_range] at h
                exact ⟨owns_below h HBb.out, fun x l hx => let ⟨y, e, h3⟩ := HVS.out.2 x l hx; ⟨y, e, owns_below h3 HBb.out⟩, Nat.le_trans HBk.out.size HBb.out.size⟩)
              have h1u : ∀ u ∈ [Value.slice la ll lc], u.oneCell' = true := by simp [Value.oneCell']
              clear HVS
              go_wp2_with (at_builtin; refine wpList_append_own _ rfl _ _ 48 rfl w6.heap.size 22 i1 (.slice none 0 0) 1 24 Try.underlying48 HIR.out.1 HIR.out.2.1 HIR.out.2.2.1 HIR.out.2.2.2 rfl (by decide) (.slice oa k oc) k vs rfl (HV2.out.1.alloc _) ⟨wb.heap.size, 0, none⟩ 1 1 [.slice la ll lc] rfl rfl (cell_one_new _ _ _) h1u (by unfold maxLen; omega) (by omega) (by have := HV2.out.2.2; simp; omega) ?_; intro v' w3 hown hgr _)
              have hAl : Below wb.heap.size wb (wb.alloc (.cells #[.slice la ll lc] 22)) := (Below.refl _ wb).alloc (Nat.le_refl _) _
              have HR2 : Hid (RowsI w6.heap.size w3 v' ((List.range (k + 1)).map (nums d))) := Lib.hid (by
                rw [List.range_succ, List.map_append]
                have e1 : [k].map (nums d) = [L] := by rw [← HNU.out]; rfl
                rw [e1]
                have e2 : ((List.range k).map (nums d)).length = k := by simp
                refine RowsI.add (W := wb.alloc (.cells #[.slice la ll lc] 22)) (v := .slice oa k oc) (vs := vs) (x := .slice la ll lc) (by rw [e2]; exact owns_below HV2.out.1 hAl) (fun x l hx => let ⟨y, e, h3⟩ := HV2.out.2.1 x l hx; ⟨y, e, owns_below h3 hAl⟩) ?_ (by rw [e2]; exact hown) hgr
                rw [← HLL.out]
                exact owns_mono (owns_below HLb.out hAl) HBk.out.size)
              have HB7 : Hid (Below w6.heap.size w6 w3) := Lib.hid (((HBk.out.trans (HBb.out.mono HBk.out.size)).trans (hAl.mono HV2.out.2.2)).grown hgr (by have := HV2.out.2.2; simp; omega) (fun k e => (HV2.out.1.lt k e).1))
              clear hAl hown hgr
              go_wp2
              go_roundw
              case rel => exact ⟨k + 1, by omega, by go_num, HB7, HR2⟩
              case measure => simp [intOf]; omega
        · have hkm : ml = k := by omega
          subst hkm
          go_wp2
          go_ret2
          exact ⟨_, _, rfl, HB6.out.trans (HBk.out.mono HB6.out.size), .inr (.inr ⟨HE.out, fun x hx => HALL.out x (by rw [HN.out.2.2]; exact hx), rfl, by rw [← HN.out.2.2]; exact HRk.out.mono HB6.out.size⟩)⟩
  · have d1 : (er != 0) = true := by rw [bne_iff_ne]; exact he
    have HNE : Hid (d.err ≠ 0 ∧ d.err = er) := Lib.hid ⟨by rw [← her]; exact he, her.symm⟩
    clear her he
    have HB := HB1
    go_wp2
    go_ret2
    exact ⟨_, _, rfl, HB.out, .inl ⟨HNE.out.1, HNE.out.2.symm, rfl⟩⟩
end Go.Proofs.Ytobmhamdkngehaa
/-
  Which stone alone can be wrong, as the reference finds it: the contract of its Wrong.
-/
namespace Go.Proofs.Ytobmhamdkngehaa
open Go.RowKit Go.Shelf
open Lim

theorem cell_two_newD (w : World) (x y : Value) (t : TypeId) : ∀ j u, [x, y][j]? = some u → (w.alloc (.cells #[x, y] t)).cell? ((⟨w.heap.size, 0, none⟩ : Addr).add j) = some u := by
  intro j u hj
  rw [Addr.add_lit, Nat.zero_add, World.cell?_alloc_new, List.getElem?_toArray]
  exact hj
theorem own_cell {W : World} {base e size n c g j : Nat} {xs : List Value} (h : W.ownsRow base e size (.slice (some ⟨g, 0, none⟩) n c) n xs) (hj : j < n * size) : ∃ u, W.cell? ⟨g, j, none⟩ = some u := by
  have h1 := h.1
  exact ⟨_, (h.cellAt j (by omega)).trans (List.getElem?_eq_getElem (by omega))⟩
/-- the numbers without stone k, as far as they are laid -/
def fewTo (ms : List Int) (k i : Nat) : List Int := (ms.take i).eraseIdx k
theorem fewTo_succ {ms : List Int} {k i : Nat} (hi : i < ms.length) : fewTo ms k (i + 1) = if i = k then fewTo ms k i else fewTo ms k i ++ [ms.getD i 0] := by
  unfold fewTo
  have hl : (ms.take i).length = i := by rw [List.length_take]; omega
  have e : ms.getD i 0 = ms[i] := by rw [List.getD_eq_getElem?_getD, List.getElem?_eq_getElem hi]; rfl
  rw [List.take_succ_eq_append_getElem hi, e]
  by_cases h : i = k
  · subst h
    rw [if_pos rfl, List.eraseIdx_append_of_length_le (by omega), hl, Nat.sub_self, List.eraseIdx_of_length_le (l := ms.take i) (by omega)]
    simp
  · rw [if_neg h]
    by_cases h2 : k < i
    · rw [List.eraseIdx_append_of_lt_length (by omega)]
    · rw [List.eraseIdx_append_of_length_le (by omega), hl, List.eraseIdx_of_length_le (l := ms.take i) (by omega), List.eraseIdx_of_length_le (by simp; omega)]
theorem fewTo_len (ms : List Int) (k i : Nat) : (fewTo ms k i).length ≤ i := by
  unfold fewTo
  refine Nat.le_trans (List.length_eraseIdx_le _ _) ?_
  rw [List.length_take]; omega
/-- two gaps as one -/
def joinS (fs : List (Int × Int)) (k : Nat) : Int × Int := ((fs.getD (k - 1) (0, 0)).1 + (fs.getD k (0, 0)).1, (fs.getD (k - 1) (0, 0)).2 + (fs.getD k (0, 0)).2)
/-- the gaps without stone k, as far as they are laid -/
def apTo (fs : List (Int × Int)) (k : Nat) : Nat → List (Int × Int)
  | 0 => []
  | i + 1 => if i = k ∧ 0 < k then (apTo fs k i).set ((apTo fs k i).length - 1) (joinS fs k) else if i = k ∨ (i = fs.length - 1 ∧ k = fs.length) then apTo fs k i else apTo fs k i ++ [fs.getD i (0, 0)]
theorem apTo_low {fs : List (Int × Int)} {k : Nat} : ∀ i, i ≤ k → i ≤ fs.length → (k < fs.length ∨ i < fs.length) → apTo fs k i = fs.take i
  | 0, _, _, _ => rfl
  | i + 1, h1, h2, h3 => by
    rw [apTo, if_neg (by omega), if_neg (by omega), apTo_low i (by omega) (by omega) (by omega), List.take_succ_eq_append_getElem (by omega), List.getD_eq_getElem?_getD, List.getElem?_eq_getElem (by omega)]
    rfl
theorem apTo_zero {fs : List (Int × Int)} : ∀ i, i ≤ fs.length → apTo fs 0 i = (fs.take i).drop 1
  | 0, _ => rfl
  | i + 1, h => by
    rw [apTo, if_neg (by omega), apTo_zero i (by omega)]
    by_cases e : i = 0
    · rw [if_pos (.inl e), e]; simp
    · rw [if_neg (by omega), List.take_succ_eq_append_getElem (by omega), List.drop_append_of_le_length (by rw [List.length_take]; omega), List.getD_eq_getElem?_getD, List.getElem?_eq_getElem (by omega)]
      rfl
theorem apTo_mid {fs : List (Int × Int)} {k : Nat} (h0 : 0 < k) (hk : k < fs.length) : ∀ i, k < i → i ≤ fs.length → apTo fs k i = ((fs.take i).set (k - 1) (joinS fs k)).eraseIdx k
  | 0, h, _ => by omega
  | i + 1, h, h2 => by
    have hl : (fs.take i).length = i := by rw [List.length_take]; omega
    rw [apTo]
    by_cases e : i = k
    · subst e
      rw [if_pos ⟨rfl, h0⟩, apTo_low i (Nat.le_refl _) (by omega) (.inl hk), hl, List.take_succ_eq_append_getElem hk, List.set_append_left (i - 1) (joinS fs i) (by omega), List.eraseIdx_append_of_length_le (by rw [List.length_set]; omega), List.length_set, hl, Nat.sub_self]
      simp
    · rw [if_neg (by omega), if_neg (by omega), apTo_mid h0 hk i (by omega) (by omega), List.take_succ_eq_append_getElem (by omega), List.set_append_left (k - 1) (joinS fs k) (by omega), List.eraseIdx_append_of_lt_length (by rw [List.length_set]; omega), List.getD_eq_getElem?_getD, List.getElem?_eq_getElem (by omega)]
      rfl
theorem apTo_all {fs : List (Int × Int)} {k : Nat} (hk : k ≤ fs.length) : apTo fs k fs.length = woF fs k := by
  unfold woF
  by_cases h0 : k = 0
  · subst h0
    rw [if_pos rfl, apTo_zero _ (Nat.le_refl _), List.take_length]
  · rw [if_neg h0]
    by_cases h1 : k = fs.length
    · rw [if_pos h1]
      obtain ⟨n, hn⟩ : ∃ n, fs.length = n + 1 := ⟨fs.length - 1, by omega⟩
      rw [hn, apTo, if_neg (by omega), if_pos (.inr ⟨by omega, by omega⟩), apTo_low n (by omega) (by omega) (.inr (by omega)), Nat.add_sub_cancel]
    · rw [if_neg h1, apTo_mid (by omega) (by omega) _ (by omega) (Nat.le_refl _), List.take_length]
      rfl
theorem apTo_len {fs : List (Int × Int)} {k : Nat} : ∀ i, (apTo fs k i).length ≤ i
  | 0 => Nat.le_refl _
  | i + 1 => by
    rw [apTo]
    have := apTo_len (fs := fs) (k := k) i
    split
    · rw [List.length_set]; omega
    · split
      · omega
      · rw [List.length_append]; simp; omega
theorem rdl_pos {d : Rd} {k : Nat} (hm : d.m.length = k) (hr : 1 ≤ d.r.length) : 0 < (rdl d k).length ↔ 0 < total d := by
  cases k with
  | zero =>
    refine ⟨fun _ => ?_, fun _ => by show 0 < ([[]] : List (List Nat)).length; simp⟩
    unfold total
    rw [hm, List.range_succ_eq_map, List.map_cons, List.sum_cons]
    have : cnt d 0 0 = 1 := by
      unfold cnt canB
      rw [List.eq_nil_of_length_eq_zero hm]
      rfl
    show 0 < cnt d (0 - 1) 0 + _
    rw [show (0 : Nat) - 1 = 0 from rfl, this]
    omega
  | succ k => rw [← hm, rdl_total (by omega)]
set_option maxRecDepth 200000 in
set_option maxHeartbeats 8000000 in
theorem rWrong_any {B : Nat} {d : Rd} {rv fv mv : Value} {w : World} (hB : B ≤ w.heap.size) (hr : RS B w rv d.r.length (spans d.r)) (hf : RS B w fv d.f.length (spans d.f)) (hm : RS B w mv d.m.length (ints d.m)) (hl : d.f.length ≤ 1000) (h8 : d.err = 0 → d.r.length ≤ 8 ∧ d.m.length ≤ 5) :
    Calls Try.prog 29 #[rv, fv, mv] w fun e w' => ∃ v er, e = .returned (.tuple #[v, .int .i64 er]) ∧ Below w.heap.size w w' ∧ WrAns d w.heap.size v er w' := by
  have HR := Lib.hid (And.intro hB (And.intro hr (And.intro hf (And.intro hm (And.intro hl h8)))))
  obtain ⟨ra, rc, rfl, -⟩ := hr
  obtain ⟨fa, fc, rfl, hfc⟩ := hf
  have HFC := Lib.hid hfc
  clear hfc
  obtain ⟨ma, mc, rfl, hmc⟩ := hm
  have HMC := Lib.hid hmc
  clear hmc
  obtain ⟨rl, hrl⟩ : ∃ x, x = d.r.length := ⟨_, rfl⟩
  obtain ⟨fl, hfl⟩ : ∃ x, x = d.f.length := ⟨_, rfl⟩
  obtain ⟨ml, hml⟩ : ∃ x, x = d.m.length := ⟨_, rfl⟩
  have HN := Lib.hid (And.intro hrl (And.intro hfl hml))
  have HRE : Hid (∀ W, Below w.heap.size w W → Calls Try.prog 24 #[.slice ra rl rc, .slice fa fl fc, .slice ma ml mc] W fun e w' => e = .returned (readAns d) ∧ Below W.heap.size W w') := Lib.hid fun W hW => by
    rw [hrl, hfl, hml]
    exact rReadings_any (Nat.le_trans HR.out.1 hW.size) (HR.out.2.1.below (hW.mono HR.out.1)) (HR.out.2.2.1.below (hW.mono HR.out.1)) (HR.out.2.2.2.1.below (hW.mono HR.out.1)) HR.out.2.2.2.2.1 HR.out.2.2.2.2.2
  have HL2 : Hid (d.err = 0 → ∀ d' : Rd, d'.r = d.r → ∀ W, Below w.heap.size w W → ∀ fv mv, RS W.heap.size W fv d'.f.length (spans d'.f) → RS W.heap.size W mv d'.m.length (ints d'.m) → d'.m.length ≤ 5 → d'.m.length ≤ d'.f.length + 1 → (∀ x ∈ d'.m, -1 ≤ x) → Calls Try.prog 71 #[.slice ra rl rc, fv, mv] W fun e w' => ∃ v, e = .returned v ∧ RowsS w' v (rdl d' d'.m.length) ∧ Below W.heap.size W w') := Lib.hid fun he d' hdr W hW fv mv h1 h2 h3 h4 h5 => by
    have q1 := asked_ok he
    have q2 := HR.out.2.2.2.2.2 he
    rw [hrl, ← hdr]
    exact rlists_any (Nat.le_refl _) (by rw [hdr]; exact (HR.out.2.1.below (hW.mono HR.out.1)).mono (Nat.le_trans HR.out.1 hW.size)) h1 h2 (by rw [hdr]; exact q1.rr.ok) (by rw [hdr]; exact q2.1) h3 h4 h5
  rw [← hrl, ← hfl, ← hml]
  clear hrl hfl hml hB hl h8
  obtain ⟨i0, hi0, hz0, hz1, hz2⟩ := info_parts Try.infoInt
  have HIN := Lib.hid (And.intro hi0 (And.intro hz0 (And.intro hz1 hz2)))
  obtain ⟨i1, hj, hy0, hy1, hy2⟩ := info_parts Try.infoSpan
  have HIS := Lib.hid (And.intro hj (And.intro hy0 (And.intro hy1 hy2)))
  clear hi0 hz0 hz1 hz2 hj hy0 hy1 hy2
  go_enter Try.func29, Try.ntmps29
  go_wp2_with fail
  refine (HRE.out _ (Below.refl _ _)).mono ?_
  rintro e w1 ⟨rfl, hb1⟩
  have HB1 := Lib.hid hb1
  clear hb1 HRE
  by_cases he : d.err = 0
  · have HE := Lib.hid he
    have HA := asked_ok he
    have h88 := HR.out.2.2.2.2.2 he
    have r8 : rl ≤ 8 := by have := HN.out; omega
    have m5 : ml ≤ 5 := by have := HN.out; omega
    have fm : fl + 1 = ml := by have := HN.out; have := HA.fm; omega
    have HOK := Lib.hid HA
    rw [readAns, if_neg (fun h => h he)]
    obtain ⟨tt, htt⟩ : ∃ t, t = total d := ⟨_, rfl⟩
    rw [← htt]
    have HTT := Lib.hid htt
    clear he HA h88 htt
    by_cases ht : 0 < tt
    · have d1 : decide ((0 : Int) < (tt : Int)) = true := decide_eq_true (by omega)
      have d1' : decide (0 < tt) = true := decide_eq_true ht
      have HP : Hid (0 < total d) := Lib.hid (by rw [← HTT.out]; exact ht)
      clear ht
      go_wp2
      go_ret2
      exact ⟨_, _, rfl, HB1.out, .inr (.inl ⟨HE.out, HP.out, rfl, rfl⟩)⟩
    · have d1 : decide ((0 : Int) < (tt : Int)) = false := decide_eq_false (by omega)
      have d1' : decide (0 < tt) = false := decide_eq_false ht
      have HT0 : Hid (total d = 0) := Lib.hid (by rw [← HTT.out]; omega)
      clear ht
      go_wp2_with fail
      clear d1 d1'
      go_loopw [10, 11] (fun ov kv W => ∃ k : Nat, k ≤ ml ∧ kv = .int .i64 (k : Int) ∧ Hid (Below w1.heap.size w1 W) ∧ Hid (W.ownsRow w1.heap.size 3 1 ov (wrongTo d k).length (ints (wrongTo d k)))) (fun _ kv _ => ml - (intOf kv).toNat)
      case atStart => exact ⟨0, Nat.zero_le _, rfl, Lib.hid (Below.refl _ _), Lib.hid (ownsRow_zero _ _ _ _)⟩
      case round =>
        obtain ⟨k, hk, rfl, HBk, HOk⟩ := hrel
        obtain ⟨wv, rfl⟩ : ∃ x, x = wr := ⟨_, rfl⟩
        have k64 : k < 100 := by omega
        have HBW : Hid (Below w.heap.size w wv) := Lib.hid (HB1.out.trans (HBk.out.mono HB1.out.size))
        by_cases hlt : k < ml
        · obtain ⟨mb, mo, rfl, hmb, hms⟩ := HMC.out (ints_ne (by have := HN.out; omega))
          have HMX : Hid (∀ W, Below w.heap.size w W → ∀ i, i < ml → W.cell? ⟨mb, mo + i, none⟩ = some (.int .i64 (d.m.getD i 0))) := Lib.hid (fun W hW i hi => by
            have h1 := hms i _ (ints_at' d.m i (by have := HN.out; omega))
            rw [← List.getD_eq_getElem?_getD] at h1
            rw [hW.cell (p := ⟨mb, mo + i, none⟩) (Nat.lt_of_lt_of_le hmb HR.out.1), h1])
          clear hmb hms
          obtain ⟨oa, oc, rfl⟩ : ∃ a c, u10 = .slice a (wrongTo d k).length c := by
            rcases HOk.out.2 with ⟨e1, e2⟩ | ⟨g, cap, cur, e1, -⟩
            · exact ⟨none, 0, by rw [e1, e2]⟩
            · exact ⟨_, cap, e1⟩
          obtain ⟨Wk, hWk⟩ : ∃ L, L = wrongTo d k := ⟨_, rfl⟩
          have HWK : Hid (Wk = wrongTo d k ∧ Wk.length ≤ k) := Lib.hid ⟨hWk, by rw [hWk]; exact wrongTo_len d k⟩
          rw [← hWk] at HOk ⊢
          obtain ⟨wl, hwl⟩ : ∃ x, x = Wk.length := ⟨_, rfl⟩
          rw [← hwl] at HOk ⊢
          have HWL := Lib.hid hwl
          clear hWk hwl
          go_wp2_with fail
          go_loopw [12, 14] (fun lv iv W => ∃ i : Nat, i ≤ ml ∧ iv = .int .i64 (i : Int) ∧ Hid (Below wv.heap.size wv W) ∧ Hid (W.ownsRow wv.heap.size 3 1 lv (fewTo d.m k i).length (ints (fewTo d.m k i)))) (fun _ iv _ => ml - (intOf iv).toNat)
          case atStart => exact ⟨0, Nat.zero_le _, rfl, Lib.hid (Below.refl _ _), Lib.hid (by rw [show fewTo d.m k 0 = [] by unfold fewTo; simp]; exact ownsRow_zero _ _ _ _)⟩
          case round =>
            obtain ⟨i, hi, rfl, HBi, HOi⟩ := hrel
            have i64 : i < 100 := by omega
            have HBI : Hid (Below w.heap.size w wr) := Lib.hid (HBW.out.trans (HBi.out.mono HBW.out.size))
            obtain ⟨la, lc, rfl⟩ : ∃ a c, u12 = .slice a (fewTo d.m k i).length c := by
              rcases HOi.out.2 with ⟨e1, e2⟩ | ⟨g, cap, cur, e1, -⟩
              · exact ⟨none, 0, by rw [e1, e2]⟩
              · exact ⟨_, cap, e1⟩
            obtain ⟨L, hL⟩ : ∃ L, L = fewTo d.m k i := ⟨_, rfl⟩
            have HLN : Hid (L = fewTo d.m k i ∧ L.length ≤ i) := Lib.hid ⟨hL, by rw [hL]; exact fewTo_len _ _ _⟩
            rw [← hL] at HOi ⊢
            obtain ⟨ll, hll⟩ : ∃ x, x = L.length := ⟨_, rfl⟩
            rw [← hll] at HOi ⊢
            have HLL := Lib.hid hll
            clear hL hll
            by_cases him : i < ml
            · have HS := Lib.hid (fewTo_succ (ms := d.m) (k := k) (i := i) (by have := HN.out; omega))
              by_cases hik : i = k
              · have HS2 : Hid (fewTo d.m k (i + 1) = L) := Lib.hid (by rw [HS.out, if_pos hik, HLN.out.1])
                have de : ((i : Int) != (k : Int)) = false := by rw [hik]; simp
                have HIK := Lib.hid hik
                clear hik
                go_wp2
                go_roundw
                case rel => exact ⟨i + 1, by omega, by go_num, HBi, Lib.hid (by rw [HS2.out, ← HLL.out]; exact HOi.out)⟩
                case measure => simp [intOf]; omega
              · obtain ⟨x, hx⟩ : ∃ x, x = d.m.getD i 0 := ⟨_, rfl⟩
                have HS2 : Hid (fewTo d.m k (i + 1) = L ++ [x]) := Lib.hid (by rw [HS.out, if_neg hik, HLN.out.1, hx])
                have de : ((i : Int) != (k : Int)) = true := by rw [bne_iff_ne]; omega
                have cx : wr.cell? ⟨mb, mo + i, none⟩ = some (.int .i64 x) := by rw [hx]; exact HMX.out wr HBI.out i him
                have h1u : ∀ u ∈ [Value.int .i64 x], u.oneCell' = true := by simp [Value.oneCell']
                clear hx hik
                go_wp2_with (at_builtin; refine wpList_append_own _ rfl _ _ 22 rfl wv.heap.size 3 i0 (.int .i64 0) 1 8 Try.underlying22 HIN.out.1 HIN.out.2.1 HIN.out.2.2.1 HIN.out.2.2.2 rfl (by decide) (.slice la ll lc) ll (ints L) rfl (HOi.out.alloc _) ⟨wr.heap.size, 0, none⟩ 1 1 [.int .i64 x] rfl rfl (cell_one_new _ _ _) h1u (by have := HLN.out; have := HLL.out; unfold maxLen; omega) (by have := HLN.out; have := HLL.out; omega) (by have := HBi.out.size; simp; omega) ?_; intro v' w3 hown hgr _)
                have HB3 : Hid (Below wv.heap.size wv w3) := Lib.hid ((HBi.out.alloc HBi.out.size _).grown hgr (by have := HBi.out.size; simp; omega) (fun k e => (HOi.out.lt k e).1))
                have HO3 : Hid (w3.ownsRow wv.heap.size 3 1 v' (fewTo d.m k (i + 1)).length (ints (fewTo d.m k (i + 1)))) := Lib.hid (by rw [HS2.out, List.length_append, ← HLL.out]; simpa [ints] using hown)
                clear hown hgr cx
                go_wp2
                go_roundw
                case rel => exact ⟨i + 1, by omega, by go_num, HB3, HO3⟩
                case measure => simp [intOf]; omega
            · have him2 : ml = i := by omega
              subst him2
              obtain ⟨wf, rfl⟩ : ∃ x, x = wr := ⟨_, rfl⟩
              have HFE : Hid (L = d.m.eraseIdx k) := Lib.hid (by rw [HLN.out.1, fewTo, HN.out.2.2, List.take_length])
              have HBF : Hid (Below w.heap.size w wf) := HBI
              have HBF2 : Hid (Below wv.heap.size wv wf) := HBi
              have HOF := HOi
              clear HBI i64
              go_wp2_with fail
              go_loopw [13, 15] (fun lv iv W => ∃ i : Nat, i ≤ fl ∧ iv = .int .i64 (i : Int) ∧ Hid (Below wf.heap.size wf W) ∧ Hid (W.ownsRow wf.heap.size 25 2 lv (apTo d.f k i).length (spans (apTo d.f k i)))) (fun _ iv _ => fl - (intOf iv).toNat)
              case atStart => exact ⟨0, Nat.zero_le _, rfl, Lib.hid (Below.refl _ _), Lib.hid (ownsRow_zero _ _ _ _)⟩
              case round =>
                obtain ⟨i, hi2, rfl, HBj, HOj⟩ := hrel
                have i64 : i < 100 := by omega
                have HBJ : Hid (Below w.heap.size w wr) := Lib.hid (HBF.out.trans (HBj.out.mono HBF.out.size))
                obtain ⟨pa, pc, rfl⟩ : ∃ a c, u13 = .slice a (apTo d.f k i).length c := by
                  rcases HOj.out.2 with ⟨e1, e2⟩ | ⟨g, cap, cur, e1, -⟩
                  · exact ⟨none, 0, by rw [e1, e2]⟩
                  · exact ⟨_, cap, e1⟩
                obtain ⟨A, hA⟩ : ∃ L, L = apTo d.f k i := ⟨_, rfl⟩
                have HAN : Hid (A = apTo d.f k i ∧ A.length ≤ i) := Lib.hid ⟨hA, by rw [hA]; exact apTo_len i⟩
                rw [← hA] at HOj ⊢
                obtain ⟨al, hal⟩ : ∃ x, x = A.length := ⟨_, rfl⟩
                rw [← hal] at HOj ⊢
                have HAL := Lib.hid hal
                clear hA hal
                by_cases hif : i < fl
                · obtain ⟨fb, fo, rfl, hfb, hfs⟩ := HFC.out (spans_ne (by have := HN.out; omega))
                  have HFX : Hid (∀ W, Below w.heap.size w W → ∀ i, i < fl → W.cell? ⟨fb, fo + i * 2, none⟩ = some (.int .i64 (d.f.getD i (0, 0)).1) ∧ W.cell? ⟨fb, fo + i * 2 + 1, none⟩ = some (.int .i64 (d.f.getD i (0, 0)).2)) := Lib.hid (fun W hW i hi => by
                    have hil : i < d.f.length := by have := HN.out; omega
                    have e : d.f.getD i (0, 0) = d.f[i] := by rw [List.getD_eq_getElem?_getD, List.getElem?_eq_getElem hil]; rfl
                    rw [hW.cell (p := ⟨fb, fo + i * 2, none⟩) (Nat.lt_of_lt_of_le hfb HR.out.1), hW.cell (p := ⟨fb, fo + i * 2 + 1, none⟩) (Nat.lt_of_lt_of_le hfb HR.out.1), e]
                    exact ⟨hfs _ _ (spans_lo _ i hil), hfs _ _ (spans_hi _ i hil)⟩)
                  have HFB : Hid (fb < w.heap.size) := Lib.hid (Nat.lt_of_lt_of_le hfb HR.out.1)
                  have HFD : Hid (∀ i, i < fl → 0 ≤ (d.f.getD i (0, 0)).1 ∧ (d.f.getD i (0, 0)).1 ≤ (d.f.getD i (0, 0)).2 ∧ (d.f.getD i (0, 0)).2 ≤ 1000000) := Lib.hid (fun i hi => by
                    have hil : i < d.f.length := by have := HN.out; omega
                    rw [List.getD_eq_getElem?_getD, List.getElem?_eq_getElem hil]
                    exact HOK.out.fr _ (List.getElem_mem hil))
                  clear hfb hfs
                  obtain ⟨q1, hq1⟩ : ∃ g, g = (d.f.getD i (0, 0)).1 := ⟨_, rfl⟩
                  obtain ⟨q2, hq2⟩ : ∃ g, g = (d.f.getD i (0, 0)).2 := ⟨_, rfl⟩
                  have hcc := HFX.out wr HBJ.out i hif
                  have hqd := HFD.out i hif
                  rw [← hq1, ← hq2] at hcc hqd
                  have HQ := Lib.hid (And.intro hq1 hq2)
                  clear hq1 hq2
                  by_cases hik : i = k ∧ 0 < k
                  · obtain ⟨hki, hk0⟩ : k = i ∧ 0 < k := ⟨hik.1.symm, hik.2⟩
                    clear hik
                    subst hki
                    obtain ⟨kp, hkp⟩ : ∃ kp, k = kp + 1 := ⟨k - 1, by omega⟩
                    obtain ⟨p1, hp1⟩ : ∃ g, g = (d.f.getD kp (0, 0)).1 := ⟨_, rfl⟩
                    obtain ⟨p2, hp2⟩ : ∃ g, g = (d.f.getD kp (0, 0)).2 := ⟨_, rfl⟩
                    have hcp := HFX.out wr HBJ.out kp (by omega)
                    have hpd := HFD.out kp (by omega)
                    rw [← hp1, ← hp2] at hcp hpd
                    have hlen : al = k := by
                      rw [HAL.out, HAN.out.1, apTo_low k (by omega) (by have := HN.out; omega) (.inr (by have := HN.out; omega)), List.length_take]
                      have := HN.out
                      omega
                    have HS : Hid (apTo d.f k (k + 1) = A.set kp (p1 + q1, p2 + q2)) := Lib.hid (by
                      rw [apTo, if_pos ⟨rfl, hk0⟩, ← HAN.out.1, ← HAL.out, hlen, show k - 1 = kp by omega]
                      congr 1
                      unfold joinS
                      rw [show k - 1 = kp by omega, hp1, hp2, HQ.out.1, HQ.out.2])
                    obtain ⟨gb, rfl⟩ : ∃ g, pa = some ⟨g, 0, none⟩ := by
                      rcases HOj.out.2 with ⟨e1, e2⟩ | ⟨g, cap, cur, e1, -⟩
                      · omega
                      · cases e1; exact ⟨g, rfl⟩
                    have hC : (fun W => W.cell? ⟨fb, fo + kp * 2, none⟩ = some (.int .i64 p1) ∧ W.cell? ⟨fb, fo + kp * 2 + 1, none⟩ = some (.int .i64 p2) ∧ W.cell? ⟨fb, fo + k * 2, none⟩ = some (.int .i64 q1) ∧ W.cell? ⟨fb, fo + k * 2 + 1, none⟩ = some (.int .i64 q2)) wr.drew := ⟨by simpa using hcp.1, by simpa using hcp.2, by simpa using hcc.1, by simpa using hcc.2⟩
                    have HB4 : Hid (Below wf.heap.size wf wr.drew) := Lib.hid HBj.out.drew
                    have HO4 : Hid (wr.drew.ownsRow wf.heap.size 25 2 (.slice (some ⟨gb, 0, none⟩) al pc) al (spans A)) := Lib.hid (owns_below HOj.out (Below.refl _ wr).drew)
                    have HNG : Hid (gb ≠ fb) := Lib.hid (by have := (HOj.out.lt gb rfl).1; have := HFB.out; have := HBF.out.size; omega)
                    have HGE : Hid (wf.heap.size ≤ gb) := Lib.hid (HOj.out.lt gb rfl).1
                    have kal : kp < al := by omega
                    have HST4 : Hid (((∃ u, wr.drew.cell? ⟨gb, kp * 2, none⟩ = some u) ∧ ∃ u, wr.drew.cell? ⟨gb, kp * 2 + 1, none⟩ = some u) ∧ wr.drew.frozen? ⟨gb, kp * 2, none⟩ = false ∧ wr.drew.frozen? ⟨gb, kp * 2 + 1, none⟩ = false) := Lib.hid ⟨⟨own_cell HO4.out (by omega), own_cell HO4.out (by omega)⟩, HO4.out.frozenAt _, HO4.out.frozenAt _⟩
                    have wk1 : IntKind.i64.wrap ((k : Int) - 1) = (kp : Int) := by rw [IntWalk.i64_in _ (by omega)]; omega
                    have wa1 : IntKind.i64.wrap ((al : Int) - 1) = (kp : Int) := by rw [IntWalk.i64_in _ (by omega)]; omega
                    have ws1 : IntKind.i64.wrap (p1 + q1) = p1 + q1 := IntWalk.i64_in _ (by omega)
                    have ws2 : IntKind.i64.wrap (p2 + q2) = p2 + q2 := IntWalk.i64_in _ (by omega)
                    have de : ((k : Int) == (k : Int)) = true := by simp
                    have dk : decide ((0 : Int) < (k : Int)) = true := decide_eq_true (by omega)
                    have dk' : decide (0 < k) = true := decide_eq_true hk0
                    have kfl : kp < fl := by omega
                    have kkf : k < fl := by omega
                    clear hcp hcc hpd hqd hp1 hp2 hkp hlen HOj
                    generalize hW0 : wr.drew = w4 at hC HB4 HO4 HST4
                    go_wp2_with fail
                    refine Lim.regC' (fun W => W.cell? ⟨fb, fo + kp * 2, none⟩ = some (.int .i64 p1) ∧ W.cell? ⟨fb, fo + kp * 2 + 1, none⟩ = some (.int .i64 p2) ∧ W.cell? ⟨fb, fo + k * 2, none⟩ = some (.int .i64 q1) ∧ W.cell? ⟨fb, fo + k * 2 + 1, none⟩ = some (.int .i64 q2)) [] #[false, false, false, false, false, false, false, false, false, false, false, false, false, false, false, false, false, false, false, false, false, false, false, false, false, false, false, false, false, false, false] (by kernel_rfl) rfl ?_
                    rw [hW0]; clear hW0
                    refine Lim.stepR 0 (fun _ => trivial) rfl (by kernel_rfl) (fun _ _ _ _ h => h) hC rfl ?_; apply Exists.intro; refine ⟨?_, ?_⟩
                    · rintro w ⟨r0, r1, r2, r3⟩; go_simp; try with_reducible rfl
                    simp only [Act.put, List.setIfInBounds_toArray, List.set_cons_succ, List.set_cons_zero]
                    refine Lim.stepR 1 (fun _ => trivial) rfl (by kernel_rfl) (fun _ _ _ _ h => h) hC rfl ?_; apply Exists.intro; refine ⟨?_, ?_⟩
                    · rintro w ⟨r0, r1, r2, r3⟩; go_simp; try with_reducible rfl
                    simp only [Act.put, List.setIfInBounds_toArray, List.set_cons_succ, List.set_cons_zero]
                    refine Lim.stepR 2 (fun _ => trivial) rfl (by kernel_rfl) (fun _ _ _ _ h => h) hC rfl ?_; apply Exists.intro; refine ⟨?_, ?_⟩
                    · rintro w ⟨r0, r1, r2, r3⟩; go_simp; try with_reducible rfl
                    simp only [Act.put, List.setIfInBounds_toArray, List.set_cons_succ, List.set_cons_zero]
                    refine Lim.stepR 3 (fun _ => trivial) rfl (by kernel_rfl) (fun _ _ _ _ h => h) hC rfl ?_; apply Exists.intro; refine ⟨?_, ?_⟩
                    · rintro w ⟨r0, r1, r2, r3⟩; go_simp; try with_reducible rfl
                    simp only [Act.put, List.setIfInBounds_toArray, List.set_cons_succ, List.set_cons_zero]
                    refine Lim.stepR 4 (fun _ => trivial) rfl (by kernel_rfl) (fun _ _ _ _ h => h) hC rfl ?_; apply Exists.intro; refine ⟨?_, ?_⟩
                    · rintro w ⟨r0, r1, r2, r3⟩; go_simp; try with_reducible rfl
                    simp only [Act.put, List.setIfInBounds_toArray, List.set_cons_succ, List.set_cons_zero]
                    refine Lim.stepR 5 (fun _ => trivial) rfl (by kernel_rfl) (fun _ _ _ _ h => h) hC rfl ?_; apply Exists.intro; refine ⟨?_, ?_⟩
                    · rintro w ⟨r0, r1, r2, r3⟩; go_simp; try with_reducible rfl
                    simp only [Act.put, List.setIfInBounds_toArray, List.set_cons_succ, List.set_cons_zero]
                    refine Lim.stepR 6 (fun _ => trivial) rfl (by kernel_rfl) (fun _ _ _ _ h => h) hC rfl ?_; apply Exists.intro; refine ⟨?_, ?_⟩
                    · rintro w ⟨r0, r1, r2, r3⟩; go_simp; try with_reducible rfl
                    simp only [Act.put, List.setIfInBounds_toArray, List.set_cons_succ, List.set_cons_zero]
                    refine Lim.stepR 7 (fun _ => trivial) rfl (by kernel_rfl) (fun _ _ _ _ h => h) hC rfl ?_; apply Exists.intro; refine ⟨?_, ?_⟩
                    · rintro w ⟨r0, r1, r2, r3⟩; go_simp; try with_reducible rfl
                    simp only [Act.put, List.setIfInBounds_toArray, List.set_cons_succ, List.set_cons_zero]
                    refine Lim.stepR 8 (fun _ => trivial) rfl (by kernel_rfl) (fun _ _ _ _ h => h) hC rfl ?_; apply Exists.intro; refine ⟨?_, ?_⟩
                    · rintro w ⟨r0, r1, r2, r3⟩; go_simp; try with_reducible rfl
                    simp only [Act.put, List.setIfInBounds_toArray, List.set_cons_succ, List.set_cons_zero]
                    refine Lim.stepR 9 (fun _ => trivial) rfl (by kernel_rfl) (fun _ _ _ _ h => h) hC rfl ?_; apply Exists.intro; refine ⟨?_, ?_⟩
                    · rintro w ⟨r0, r1, r2, r3⟩; go_simp; try with_reducible rfl
                    simp only [Act.put, List.setIfInBounds_toArray, List.set_cons_succ, List.set_cons_zero]
                    refine Lim.stepR 10 (fun _ => trivial) rfl (by kernel_rfl) (fun _ _ _ _ h => h) hC rfl ?_; apply Exists.intro; refine ⟨?_, ?_⟩
                    · rintro w ⟨r0, r1, r2, r3⟩; go_simp; try with_reducible rfl
                    simp only [Act.put, List.setIfInBounds_toArray, List.set_cons_succ, List.set_cons_zero]
                    refine Lim.stepR 11 (fun _ => trivial) rfl (by kernel_rfl) (fun _ _ _ _ h => h) hC rfl ?_; apply Exists.intro; refine ⟨?_, ?_⟩
                    · rintro w ⟨r0, r1, r2, r3⟩; go_simp; try with_reducible rfl
                    simp only [Act.put, List.setIfInBounds_toArray, List.set_cons_succ, List.set_cons_zero]
                    refine Lim.stepR 12 (fun _ => trivial) rfl (by kernel_rfl) (fun _ _ _ _ h => h) hC rfl ?_; apply Exists.intro; refine ⟨?_, ?_⟩
                    · rintro w ⟨r0, r1, r2, r3⟩; go_simp; try with_reducible rfl
                    simp only [Act.put, List.setIfInBounds_toArray, List.set_cons_succ, List.set_cons_zero]
                    refine Lim.stepR 13 (fun _ => trivial) rfl (by kernel_rfl) (fun _ _ _ _ h => h) hC rfl ?_; apply Exists.intro; refine ⟨?_, ?_⟩
                    · rintro w ⟨r0, r1, r2, r3⟩; go_simp; try with_reducible rfl
                    simp only [Act.put, List.setIfInBounds_toArray, List.set_cons_succ, List.set_cons_zero]
                    refine Lim.stepR 14 (fun _ => trivial) rfl (by kernel_rfl) (fun _ _ _ _ h => h) hC rfl ?_; apply Exists.intro; refine ⟨?_, ?_⟩
                    · rintro w ⟨r0, r1, r2, r3⟩; go_simp; try with_reducible rfl
                    simp only [Act.put, List.setIfInBounds_toArray, List.set_cons_succ, List.set_cons_zero]
                    refine Lim.stepR 15 (fun _ => trivial) rfl (by kernel_rfl) (fun _ _ _ _ h => h) hC rfl ?_; apply Exists.intro; refine ⟨?_, ?_⟩
                    · rintro w ⟨r0, r1, r2, r3⟩; go_simp; try with_reducible rfl
                    simp only [Act.put, List.setIfInBounds_toArray, List.set_cons_succ, List.set_cons_zero]
                    refine Lim.stepR 16 (fun _ => trivial) rfl (by kernel_rfl) (fun _ _ _ _ h => h) hC rfl ?_; apply Exists.intro; refine ⟨?_, ?_⟩
                    · rintro w ⟨r0, r1, r2, r3⟩; go_simp; try with_reducible rfl
                    simp only [Act.put, List.setIfInBounds_toArray, List.set_cons_succ, List.set_cons_zero]
                    refine Lim.stepR 17 (fun _ => trivial) rfl (by kernel_rfl) (fun _ _ _ _ h => h) hC rfl ?_; apply Exists.intro; refine ⟨?_, ?_⟩
                    · rintro w ⟨r0, r1, r2, r3⟩; go_simp; try with_reducible rfl
                    simp only [Act.put, List.setIfInBounds_toArray, List.set_cons_succ, List.set_cons_zero]
                    refine Lim.stepR 18 (fun _ => trivial) rfl (by kernel_rfl) (fun _ _ _ _ h => h) hC rfl ?_; apply Exists.intro; refine ⟨?_, ?_⟩
                    · rintro w ⟨r0, r1, r2, r3⟩; go_simp; try with_reducible rfl
                    simp only [Act.put, List.setIfInBounds_toArray, List.set_cons_succ, List.set_cons_zero]
                    refine Lim.stepR 19 (fun _ => trivial) rfl (by kernel_rfl) (fun _ _ _ _ h => h) hC rfl ?_; apply Exists.intro; refine ⟨?_, ?_⟩
                    · rintro w ⟨r0, r1, r2, r3⟩; go_simp; try with_reducible rfl
                    simp only [Act.put, List.setIfInBounds_toArray, List.set_cons_succ, List.set_cons_zero]
                    refine Lim.stepR 20 (fun _ => trivial) rfl (by kernel_rfl) (fun _ _ _ _ h => h) hC rfl ?_; apply Exists.intro; refine ⟨?_, ?_⟩
                    · rintro w ⟨r0, r1, r2, r3⟩; go_simp; try with_reducible rfl
                    simp only [Act.put, List.setIfInBounds_toArray, List.set_cons_succ, List.set_cons_zero]
                    refine Lim.stepR 21 (fun _ => trivial) rfl (by kernel_rfl) (fun _ _ _ _ h => h) hC rfl ?_; apply Exists.intro; refine ⟨?_, ?_⟩
                    · rintro w ⟨r0, r1, r2, r3⟩; go_simp; try with_reducible rfl
                    simp only [Act.put, List.setIfInBounds_toArray, List.set_cons_succ, List.set_cons_zero]
                    refine Lim.stepR 22 (fun _ => trivial) rfl (by kernel_rfl) (fun _ _ _ _ h => h) hC rfl ?_; apply Exists.intro; refine ⟨?_, ?_⟩
                    · rintro w ⟨r0, r1, r2, r3⟩; go_simp; try with_reducible rfl
                    simp only [Act.put, List.setIfInBounds_toArray, List.set_cons_succ, List.set_cons_zero]
                    refine Lim.stepR 23 (fun _ => trivial) rfl (by kernel_rfl) (fun _ _ _ _ h => h) hC rfl ?_; apply Exists.intro; refine ⟨?_, ?_⟩
                    · rintro w ⟨r0, r1, r2, r3⟩; go_simp; try with_reducible rfl
                    simp only [Act.put, List.setIfInBounds_toArray, List.set_cons_succ, List.set_cons_zero]
                    refine Lim.stepR 24 (fun _ => trivial) rfl (by kernel_rfl) (fun _ _ _ _ h => h) hC rfl ?_; apply Exists.intro; refine ⟨?_, ?_⟩
                    · rintro w ⟨r0, r1, r2, r3⟩; go_simp; try with_reducible rfl
                    simp only [Act.put, List.setIfInBounds_toArray, List.set_cons_succ, List.set_cons_zero]
                    refine Lim.stepR 25 (fun _ => trivial) rfl (by kernel_rfl) (fun _ _ _ _ h => h) hC rfl ?_; apply Exists.intro; refine ⟨?_, ?_⟩
                    · rintro w ⟨r0, r1, r2, r3⟩; go_simp; try with_reducible rfl
                    simp only [Act.put, List.setIfInBounds_toArray, List.set_cons_succ, List.set_cons_zero]
                    refine Lim.stepR 26 (fun _ => trivial) rfl (by kernel_rfl) (fun _ _ _ _ h => h) hC rfl ?_; apply Exists.intro; refine ⟨?_, ?_⟩
                    · rintro w ⟨r0, r1, r2, r3⟩; go_simp; try with_reducible rfl
                    simp only [Act.put, List.setIfInBounds_toArray, List.set_cons_succ, List.set_cons_zero]
                    refine Lim.stepR 27 (fun _ => trivial) rfl (by kernel_rfl) (fun _ _ _ _ h => h) hC rfl ?_; apply Exists.intro; refine ⟨?_, ?_⟩
                    · rintro w ⟨r0, r1, r2, r3⟩; go_simp; try with_reducible rfl
                    simp only [Act.put, List.setIfInBounds_toArray, List.set_cons_succ, List.set_cons_zero]
                    refine Lim.stepR 28 (fun _ => trivial) rfl (by kernel_rfl) (fun _ _ _ _ h => h) hC rfl ?_; apply Exists.intro; refine ⟨?_, ?_⟩
                    · rintro w ⟨r0, r1, r2, r3⟩; go_simp; try with_reducible rfl
                    simp only [Act.put, List.setIfInBounds_toArray, List.set_cons_succ, List.set_cons_zero]
                    refine Lim.stepR 29 (fun _ => trivial) rfl (by kernel_rfl) (fun _ _ _ _ h => h) hC rfl ?_; apply Exists.intro; refine ⟨?_, ?_⟩
                    · rintro w ⟨r0, r1, r2, r3⟩; go_simp; try with_reducible rfl
                    simp only [Act.put, List.setIfInBounds_toArray, List.set_cons_succ, List.set_cons_zero]
                    refine Lim.stepE 30 (fun _ => trivial) rfl (by kernel_rfl) rfl (fun K hK => ?_)   -- E store
                    obtain ⟨⟨⟨z1, x1⟩, z2, x2⟩, f1, f2⟩ := HST4.out
                    have x3 : (w4.setCell ⟨gb, kp * 2, none⟩ (.int .i64 (p1 + q1))).cell? ⟨gb, kp * 2 + 1, none⟩ = some z2 := by rw [setCell_offP _ _ (by omega)]; exact x2
                    go_simp
                    refine hK _ _ ⟨(setCell_farP _ _ HNG.out).trans ((setCell_farP _ _ HNG.out).trans hC.1), (setCell_farP _ _ HNG.out).trans ((setCell_farP _ _ HNG.out).trans hC.2.1), (setCell_farP _ _ HNG.out).trans ((setCell_farP _ _ HNG.out).trans hC.2.2.1), (setCell_farP _ _ HNG.out).trans ((setCell_farP _ _ HNG.out).trans hC.2.2.2)⟩ ?_
                    simp only [Act.put, List.setIfInBounds_toArray, List.set_cons_succ, List.set_cons_zero]
                    refine Lim.stepD (by kernel_rfl) ?_
                    have HO5 : Hid (((w4.setCell ⟨gb, kp * 2, none⟩ (.int .i64 (p1 + q1))).setCell ⟨gb, kp * 2 + 1, none⟩ (.int .i64 (p2 + q2))).ownsRow wf.heap.size 25 2 (.slice (some ⟨gb, 0, none⟩) al pc) al (spans (apTo d.f k (k + 1)))) := Lib.hid (by rw [HS.out]; exact span_put HO4.out kp _ _)
                    have HB5 : Hid (Below wf.heap.size wf ((w4.setCell ⟨gb, kp * 2, none⟩ (.int .i64 (p1 + q1))).setCell ⟨gb, kp * 2 + 1, none⟩ (.int .i64 (p2 + q2)))) := Lib.hid ((HB4.out.setCell (p := ⟨gb, kp * 2, none⟩) HGE.out _).setCell (p := ⟨gb, kp * 2 + 1, none⟩) HGE.out _)
                    have HLE : Hid ((apTo d.f k (k + 1)).length = al) := Lib.hid (by rw [HS.out, List.length_set, HAL.out])
                    generalize (w4.setCell ⟨gb, kp * 2, none⟩ (.int .i64 (p1 + q1))).setCell ⟨gb, kp * 2 + 1, none⟩ (.int .i64 (p2 + q2)) = w5 at HO5 HB5 ⊢
                    go_wp2
                    go_roundw
                    case rel => exact ⟨k + 1, by omega, by go_num, HB5, Lib.hid (by rw [HLE.out]; exact HO5.out)⟩
                    case measure => simp [intOf]; omega
                  · by_cases h0 : i = k
                    · obtain ⟨hki, hk0⟩ : k = i ∧ ¬ 0 < k := ⟨h0.symm, fun h => hik ⟨h0, h⟩⟩
                      clear h0 hik
                      subst hki
                      have de : ((k : Int) == (k : Int)) = true := by simp
                      have dk : decide ((0 : Int) < (k : Int)) = false := decide_eq_false (by omega)
                      have dk' : decide (0 < k) = false := decide_eq_false hk0
                      have HS : Hid (apTo d.f k (k + 1) = A) := Lib.hid (by rw [apTo, if_neg (fun h => hk0 h.2), if_pos (.inl rfl), HAN.out.1])
                      clear hk0
                      clear hcc hqd
                      go_wp2
                      go_roundw
                      case rel => exact ⟨k + 1, by omega, by go_num, HBj, Lib.hid (by rw [HS.out, ← HAL.out]; exact HOj.out)⟩
                      case measure => simp [intOf]; omega
                    · have de : ((i : Int) == (k : Int)) = false := beq_eq_false_iff_ne.2 (by omega)
                      by_cases h1 : i = fl - 1
                      · have wf1 : IntKind.i64.wrap ((fl : Int) - 1) = (i : Int) := by rw [IntWalk.i64_in _ (by have := HN.out; omega)]; omega
                        have dii : ((i : Int) == (i : Int)) = true := by simp
                        by_cases h2 : k = fl
                        · have dq : ((k : Int) == (fl : Int)) = true := by rw [h2]; simp
                          have HS : Hid (apTo d.f k (i + 1) = A) := Lib.hid (by rw [apTo, if_neg hik, if_pos (.inr (by have := HN.out; omega)), HAN.out.1])
                          clear h0 h1 h2 hik
                          clear hcc hqd
                          go_wp2
                          go_roundw
                          case rel => exact ⟨i + 1, by omega, by go_num, HBj, Lib.hid (by rw [HS.out, ← HAL.out]; exact HOj.out)⟩
                          case measure => simp [intOf]; omega
                        · have dq : ((k : Int) == (fl : Int)) = false := beq_eq_false_iff_ne.2 (by omega)
                          have HS : Hid (apTo d.f k (i + 1) = A ++ [(q1, q2)]) := Lib.hid (by rw [apTo, if_neg hik, if_neg (by have := HN.out; omega), HAN.out.1, HQ.out.1, HQ.out.2])
                          clear h0 h1 h2 hik
                          have hcx := hcc
                          obtain ⟨c1, c2⟩ := hcx
                          have kif : (i : Int) < (fl : Int) := by omega
                          have h1u : ∀ u ∈ [Value.int .i64 q1, Value.int .i64 q2], u.oneCell' = true := by simp [Value.oneCell']
                          clear hcc hqd
                          go_wp2_with (at_builtin; refine wpList_append_own _ rfl _ _ 23 rfl wf.heap.size 25 i1 (.agg #[.int .i64 0, .int .i64 0]) 2 16 Try.underlying23 HIS.out.1 HIS.out.2.1 HIS.out.2.2.1 HIS.out.2.2.2 rfl (by decide) (.slice pa al pc) al (spans A) rfl (HOj.out.alloc _) ⟨wr.heap.size, 0, none⟩ 1 1 [.int .i64 q1, .int .i64 q2] rfl rfl (cell_two_newD _ _ _ _) h1u (by have := HAN.out; have := HAL.out; unfold maxLen; omega) (by have := HAN.out; have := HAL.out; omega) (by have := HBj.out.size; simp; omega) ?_; intro v' w3 hown hgr _)
                          have HB3 : Hid (Below wf.heap.size wf w3) := Lib.hid ((HBj.out.alloc HBj.out.size _).grown hgr (by have := HBj.out.size; simp; omega) (fun k e => (HOj.out.lt k e).1))
                          have HO3 : Hid (w3.ownsRow wf.heap.size 25 2 v' (apTo d.f k (i + 1)).length (spans (apTo d.f k (i + 1)))) := Lib.hid (by rw [HS.out, List.length_append, ← HAL.out, spans_append']; simpa [spans] using hown)
                          clear hown hgr c1 c2
                          go_wp2
                          go_roundw
                          case rel => exact ⟨i + 1, by omega, by go_num, HB3, HO3⟩
                          case measure => simp [intOf]; omega
                      · have wf1 : IntKind.i64.wrap ((fl : Int) - 1) = (fl : Int) - 1 := IntWalk.i64_in _ (by have := HN.out; omega)
                        have dl : ((i : Int) == (fl : Int) - 1) = false := beq_eq_false_iff_ne.2 (by omega)
                        have HS : Hid (apTo d.f k (i + 1) = A ++ [(q1, q2)]) := Lib.hid (by rw [apTo, if_neg hik, if_neg (by have := HN.out; omega), HAN.out.1, HQ.out.1, HQ.out.2])
                        clear h0 h1 hik
                        have hcx := hcc
                        obtain ⟨c1, c2⟩ := hcx
                        have kif : (i : Int) < (fl : Int) := by omega
                        have h1u : ∀ u ∈ [Value.int .i64 q1, Value.int .i64 q2], u.oneCell' = true := by simp [Value.oneCell']
                        clear hcc hqd
                        go_wp2_with (at_builtin; refine wpList_append_own _ rfl _ _ 23 rfl wf.heap.size 25 i1 (.agg #[.int .i64 0, .int .i64 0]) 2 16 Try.underlying23 HIS.out.1 HIS.out.2.1 HIS.out.2.2.1 HIS.out.2.2.2 rfl (by decide) (.slice pa al pc) al (spans A) rfl (HOj.out.alloc _) ⟨wr.heap.size, 0, none⟩ 1 1 [.int .i64 q1, .int .i64 q2] rfl rfl (cell_two_newD _ _ _ _) h1u (by have := HAN.out; have := HAL.out; unfold maxLen; omega) (by have := HAN.out; have := HAL.out; omega) (by have := HBj.out.size; simp; omega) ?_; intro v' w3 hown hgr _)
                        have HB3 : Hid (Below wf.heap.size wf w3) := Lib.hid ((HBj.out.alloc HBj.out.size _).grown hgr (by have := HBj.out.size; simp; omega) (fun k e => (HOj.out.lt k e).1))
                        have HO3 : Hid (w3.ownsRow wf.heap.size 25 2 v' (apTo d.f k (i + 1)).length (spans (apTo d.f k (i + 1)))) := Lib.hid (by rw [HS.out, List.length_append, ← HAL.out, spans_append']; simpa [spans] using hown)
                        clear hown hgr c1 c2
                        go_wp2
                        go_roundw
                        case rel => exact ⟨i + 1, by omega, by go_num, HB3, HO3⟩
                        case measure => simp [intOf]; omega
                · have him3 : fl = i := by omega
                  subst him3
                  clear i64
                  obtain ⟨wd, hwd⟩ : ∃ x, x = wo d k := ⟨_, rfl⟩
                  have HWD : Hid (wd.r = d.r ∧ wd.f = A ∧ wd.m = L) := Lib.hid ⟨by rw [hwd]; rfl, by rw [hwd, HAN.out.1]; show woF d.f k = _; rw [← apTo_all (by have := HN.out; omega), HN.out.2.1], by rw [hwd, HFE.out]; rfl⟩
                  have m2 : 2 ≤ ml := by
                    have h1 := HN.out
                    rcases Nat.lt_or_ge ml 2 with h | h
                    · have h2 := one_reads HE.out (by have := HOK.out.m1; omega)
                      have := HT0.out
                      omega
                    · exact h
                  have hll1 : L.length = ml - 1 := by rw [HFE.out, List.length_eraseIdx_of_lt (by have := HN.out; omega), HN.out.2.2]
                  have hal1 : A.length = fl - 1 := by rw [HAN.out.1, HN.out.2.1, apTo_all (by have := HN.out; omega), woF_len (by have := HN.out; omega)]
                  have hL1 : ∀ x ∈ wd.m, -1 ≤ x := fun x hx => by
                    rw [HWD.out.2.2, HFE.out] at hx
                    exact (asked_nm HE.out x (List.mem_of_mem_eraseIdx hx)).1
                  have hpos := rdl_pos (d := wd) (k := wd.m.length) rfl (by rw [HWD.out.1]; exact HOK.out.r1)
                  rw [hwd] at hpos
                  have HPOS := Lib.hid hpos
                  have HCL := HL2.out HE.out wd HWD.out.1 wr HBJ.out (.slice pa al pc) (.slice la ll lc) (by rw [HWD.out.2.1, ← HAL.out]; exact RS.of_owns HOj.out) (by rw [HWD.out.2.2, ← HLL.out]; exact RS.on (RS.of_owns HOF.out) HBj.out) (by rw [HWD.out.2.2, hll1]; omega) (by rw [HWD.out.2.2, HWD.out.2.1, hll1, hal1]; omega) hL1
                  clear hpos hll1 hal1 hL1
                  go_wp2_with fail
                  refine HCL.mono ?_
                  rintro e w5 ⟨v, rfl, hrw, hb5⟩
                  obtain ⟨a7, c7, rfl, -⟩ := hrw
                  obtain ⟨n7, hn7⟩ : ∃ x, x = (rdl wd wd.m.length).length := ⟨_, rfl⟩
                  rw [← hn7]
                  rw [hwd] at hn7
                  have HN7 := Lib.hid hn7
                  have HBV : Hid (Below wv.heap.size wv w5) := Lib.hid (HBF2.out.trans ((HBj.out.trans (hb5.mono HBj.out.size)).mono HBF2.out.size))
                  have HB5 : Hid (Below w1.heap.size w1 w5) := Lib.hid (HBk.out.trans (HBV.out.mono HBk.out.size))
                  have HO5 : Hid (w5.ownsRow w1.heap.size 3 1 (.slice oa wl oc) wl (ints Wk)) := Lib.hid (owns_below HOk.out HBV.out)
                  clear hb5 hn7 hwd HCL
                  by_cases h7 : 0 < n7
                  · have d7 : decide ((0 : Int) < (n7 : Int)) = true := decide_eq_true (by omega)
                    have d7' : decide (0 < n7) = true := decide_eq_true h7
                    have HS : Hid (wrongTo d (k + 1) = Wk ++ [(k : Int)]) := Lib.hid (by rw [wrongTo_add (HPOS.out.1 (by rw [← HN7.out]; exact h7)), HWK.out.1])
                    have h1u : ∀ u ∈ [Value.int .i64 (k : Int)], u.oneCell' = true := by simp [Value.oneCell']
                    clear h7
                    go_wp2_with (at_builtin; refine wpList_append_own _ rfl _ _ 22 rfl w1.heap.size 3 i0 (.int .i64 0) 1 8 Try.underlying22 HIN.out.1 HIN.out.2.1 HIN.out.2.2.1 HIN.out.2.2.2 rfl (by decide) (.slice oa wl oc) wl (ints Wk) rfl (HO5.out.alloc _) ⟨w5.heap.size, 0, none⟩ 1 1 [.int .i64 (k : Int)] rfl rfl (cell_one_new _ _ _) h1u (by have := HWK.out; have := HWL.out; unfold maxLen; omega) (by have := HWK.out; have := HWL.out; omega) (by have := HB5.out.size; simp; omega) ?_; intro v' w6 hown hgr _)
                    have HB6 : Hid (Below w1.heap.size w1 w6) := Lib.hid ((HB5.out.alloc HB5.out.size _).grown hgr (by have := HB5.out.size; simp; omega) (fun k e => (HO5.out.lt k e).1))
                    have HO6 : Hid (w6.ownsRow w1.heap.size 3 1 v' (wrongTo d (k + 1)).length (ints (wrongTo d (k + 1)))) := Lib.hid (by rw [HS.out, List.length_append, ← HWL.out]; simpa [ints] using hown)
                    clear hown hgr
                    go_wp2
                    go_roundw
                    case rel => exact ⟨k + 1, by omega, by go_num, HB6, HO6⟩
                    case measure => simp [intOf]; omega
                  · have d7 : decide ((0 : Int) < (n7 : Int)) = false := decide_eq_false (by omega)
                    have d7' : decide (0 < n7) = false := decide_eq_false h7
                    have HS : Hid (wrongTo d (k + 1) = Wk) := Lib.hid (by rw [wrongTo_skip (fun h => h7 (by rw [HN7.out]; exact HPOS.out.2 h)), HWK.out.1])
                    clear h7
                    go_wp2
                    go_roundw
                    case rel => exact ⟨k + 1, by omega, by go_num, HB5, Lib.hid (by rw [HS.out, ← HWL.out]; exact HO5.out)⟩
                    case measure => simp [intOf]; omega
        · have hkm : ml = k := by omega
          subst hkm
          go_wp2
          go_ret2
          exact ⟨_, _, rfl, HBW.out, .inr (.inr ⟨HE.out, HT0.out, rfl, by rw [← HN.out.2.2]; exact owns_mono HOk.out HB1.out.size⟩)⟩
  · have HA : Hid (readAns d = .tuple #[.int .i64 0, .int .i64 d.err]) := Lib.hid (by unfold readAns; rw [if_pos he])
    rw [HA.out]
    obtain ⟨er, her⟩ : ∃ x, x = d.err := ⟨_, rfl⟩
    rw [← her]
    have HER : Hid (d.err ≠ 0 ∧ d.err = er) := Lib.hid ⟨he, her.symm⟩
    have d1 : (er != 0) = true := by rw [bne_iff_ne, her]; exact he
    clear he her
    go_wp2
    go_ret2
    exact ⟨_, _, rfl, HB1.out, .inl ⟨HER.out.1, HER.out.2.symm, rfl⟩⟩
end Go.Proofs.Ytobmhamdkngehaa
