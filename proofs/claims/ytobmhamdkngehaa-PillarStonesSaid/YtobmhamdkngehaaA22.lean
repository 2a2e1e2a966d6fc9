/-
  Parts of the proof, in the order in which they build: RpE.
-/
import Derived.Test.YtobmhamdkngehaaA21
import Derived.Test.YtobmhamdkngehaaB22
import Derived.Test.YtobmhamdkngehaaA9
set_option linter.unusedVariables false
set_option linter.unusedSimpArgs false
namespace Go.Proofs.Ytobmhamdkngehaa
open Go.RowKit Go.Shelf
open Lim

theorem rows_made (n : Nat) : (madeCells (Value.slice none 0 0).cells (n * 1)).toList = (List.range n).map (fun _ => Value.slice none 0 0) := by
  rw [Nat.mul_one]
  have : (Value.slice none 0 0).cells = #[.slice none 0 0] := rfl
  rw [this, toList_madeCells_one]
  apply List.ext_getElem?
  intro j
  by_cases hj : j < n
  · simp [hj]
  · simp [hj]
/-- a list of numbers that is only read, and not in block g -/
def LiG (g : Nat) (W : World) (v : Value) (L : List Nat) : Prop :=
  ∃ a c, v = .slice a L.length c ∧ (L ≠ [] → ∃ b o, a = some ⟨b, o, none⟩ ∧ b ≠ g ∧ b < W.heap.size ∧ ∀ k, k < L.length → W.cell? ⟨b, o + k, none⟩ = some (.int .i64 (L.getD k 0 : Nat)))
theorem LiG.nil (g : Nat) (W : World) : LiG g W (.slice none 0 0) [] := ⟨none, 0, rfl, fun h => absurd rfl h⟩
theorem LiG.grow {g : Nat} {W W' : World} {v : Value} {L : List Nat} (h : LiG g W v L) (hb : Below W.heap.size W W') : LiG g W' v L := by
  obtain ⟨a, c, rfl, h⟩ := h
  refine ⟨a, c, rfl, fun hne => ?_⟩
  obtain ⟨b, o, e, h1, h2, h3⟩ := h hne
  exact ⟨b, o, e, h1, Nat.lt_of_lt_of_le h2 hb.size, fun k hk => (hb.cell (p := ⟨b, o + k, none⟩) h2).trans (h3 k hk)⟩
theorem LiG.store {g j : Nat} {W : World} {v x : Value} {L : List Nat} (h : LiG g W v L) : LiG g (W.setCell ⟨g, j, none⟩ x) v L := by
  obtain ⟨a, c, rfl, h⟩ := h
  refine ⟨a, c, rfl, fun hne => ?_⟩
  obtain ⟨b, o, e, h1, h2, h3⟩ := h hne
  exact ⟨b, o, e, h1, by simpa [World.setCell] using h2, fun k hk => by rw [setCell_farP _ _ (Ne.symm h1)]; exact h3 k hk⟩
theorem LiG.rs {g : Nat} {W : World} {v : Value} {L : List Nat} (h : LiG g W v L) : RS W.heap.size W v L.length (ints (L.map Int.ofNat)) := by
  obtain ⟨a, c, rfl, h⟩ := h
  refine ⟨a, c, rfl, fun hne => ?_⟩
  obtain ⟨b, o, e, h1, h2, h3⟩ := h (fun e => hne (by rw [e]; rfl))
  refine ⟨b, o, e, h2, fun k u hk => ?_⟩
  have hlt : k < L.length := by
    have := (List.getElem?_eq_some_iff.1 hk).1
    simpa [ints] using this
  rw [nats_at hlt] at hk
  rw [h3 k hlt]
  exact hk
theorem LiG.of_rs {g B : Nat} {W : World} {v : Value} {L : List Nat} (h : RS B W v L.length (ints (L.map Int.ofNat))) (hB : B ≤ W.heap.size) (hg : ∀ b o c, v = .slice (some ⟨b, o, none⟩) L.length c → L ≠ [] → b ≠ g) : LiG g W v L := by
  obtain ⟨a, c, rfl, h⟩ := h
  refine ⟨a, c, rfl, fun hne => ?_⟩
  obtain ⟨b, o, rfl, h2, h3⟩ := h (nats_ne hne)
  exact ⟨b, o, rfl, hg b o c rfl hne, by omega, fun k hk => h3 k _ (nats_at hk)⟩
theorem LiG.of_owns {g base : Nat} {W : World} {v : Value} {L : List Nat} (h : W.ownsRow base 3 1 v L.length (ints (L.map Int.ofNat))) (hg : g < base) : LiG g W v L := by
  refine LiG.of_rs (RS.of_owns h) (Nat.le_refl _) (fun b o c e hne => ?_)
  subst e
  have := (h.lt b rfl).1
  omega
/-- one place of a list of lists is changed -/
def upF {α : Type} (f : Nat → α) (j : Nat) (x : α) (k : Nat) : α := if k = j then x else f k
theorem upF_same {α : Type} (f : Nat → α) (j : Nat) (x : α) : upF f j x j = x := if_pos rfl
theorem upF_off {α : Type} (f : Nat → α) {j k : Nat} (x : α) (h : k ≠ j) : upF f j x k = f k := if_neg h
theorem range_set {n : Nat} (V : Nat → Value) (x : Value) {j : Nat} (h : j < n) : ((List.range n).map V).set j x = (List.range n).map (upF V j x) := by
  apply List.ext_getElem?
  intro k
  rw [List.getElem?_set, List.getElem?_map, List.getElem?_map]
  by_cases e : j = k
  · subst e; simp [h, upF_same]
  · rw [if_neg e]
    by_cases hk : k < n
    · simp only [List.getElem?_range hk, Option.map_some]; rw [upF_off _ _ (Ne.symm e)]
    · rw [List.getElem?_eq_none (by simpa using hk)]; rfl
/-- what lies in memory while best runs -/
structure BeM (w : World) (q g n : Nat) (av gv : Value) (p : Pf) (V : Nat → Value) (Ls : Nat → List Nat) (W : World) : Prop where
  be : Below w.heap.size w W
  c : PfC W q p av gv
  own : W.ownsRow w.heap.size 22 1 (.slice (some ⟨g, 0, none⟩) n n) n ((List.range n).map V)
  li : ∀ k, k < n → LiG g W (V k) (Ls k)
  qg : w.heap.size ≤ g ∧ q ≠ g
section
variable {w : World} {q g n : Nat} {av gv : Value} {p : Pf} {V : Nat → Value} {Ls : Nat → List Nat} {W W' : World}
theorem BeM.grow (h : BeM w q g n av gv p V Ls W) (hb : Below W.heap.size W W') : BeM w q g n av gv p V Ls W' :=
  ⟨h.be.trans (hb.mono h.be.size), h.c.grow hb, owns_below h.own hb, fun k hk => (h.li k hk).grow hb, h.qg⟩
theorem BeM.at (h : BeM w q g n av gv p V Ls W) {k : Nat} (hk : k < n) : W.cell? ⟨g, k, none⟩ = some (V k) := by
  have h1 := h.own.cellAt k (by omega)
  simpa [List.getElem?_range hk] using h1
theorem BeM.ext (h : BeM w q g n av gv p V Ls W) {Ls' : Nat → List Nat} (e : ∀ k, k < n → Ls k = Ls' k) : BeM w q g n av gv p V Ls' W :=
  ⟨h.be, h.c, h.own, fun k hk => by rw [← e k hk]; exact h.li k hk, h.qg⟩
theorem BeM.put (h : BeM w q g n av gv p V Ls W) {j : Nat} (hj : j < n) {v : Value} {L : List Nat} (hv : LiG g W v L) : BeM w q g n av gv p (upF V j v) (upF Ls j L) (W.setCell ⟨g, j, none⟩ v) := by
  have far : ∀ (o : Nat) (u : Value), W.cell? ⟨q, o, none⟩ = some u → (W.setCell ⟨g, j, none⟩ v).cell? ⟨q, o, none⟩ = some u := fun o u hu => by rw [setCell_farP _ _ (Ne.symm h.qg.2)]; exact hu
  refine ⟨h.be.setCell (p := ⟨g, j, none⟩) h.qg.1 _, ⟨far _ _ h.c.c0, far _ _ h.c.c1, far _ _ h.c.c2, far _ _ h.c.c3, far _ _ h.c.c4⟩, ?_, fun k hk => ?_, h.qg⟩
  · have := (h.own.stored j v).1
    rw [range_set V v hj] at this
    exact this
  · by_cases e : k = j
    · rw [e, upF_same, upF_same]; exact hv.store
    · rw [upF_off _ _ e, upF_off _ _ e]; exact (h.li k hk).store
theorem BeM.fr (h : BeM w q g n av gv p V Ls W) (k : Nat) : W.frozen? ⟨g, k, none⟩ = false := h.own.frozenAt k
end
theorem owns_empty {base : Nat} (w : World) (h : base ≤ w.heap.size) (e : TypeId) : (w.alloc (.cells #[] e)).ownsRow base e 1 (.slice (some ⟨w.heap.size, 0, none⟩) 0 0) 0 [] :=
  ⟨rfl, .inr ⟨w.heap.size, 0, #[], rfl, h, heap_alloc_newP w _, Nat.le_refl _, Nat.zero_le _, rfl, rfl⟩⟩
/-- what is known of a place's list when its turn is over -/
def DoneL (p : Pf) (wt : Int) (s k : Nat) (L : List Nat) : Prop := if (k : Int) = wt then L = [] else (L ≠ [] → IsBest p.n p.sure wt k s L) ∧ (L = [] → ∀ M, ¬ Ch p.n p.sure wt k s M)
theorem DoneL.best {p : Pf} {wt : Int} {s k : Nat} {L : List Nat} (h : DoneL p wt s k L) (hne : L ≠ []) : (k : Int) ≠ wt ∧ IsBest p.n p.sure wt k s L := by
  unfold DoneL at h
  split at h
  · exact absurd h hne
  · rename_i h2; exact ⟨h2, h.1 hne⟩
theorem DoneL.none {p : Pf} {wt : Int} {s k : Nat} {L : List Nat} (h : DoneL p wt s k L) (he : L = []) (M : List Nat) (hc : Ch p.n p.sure wt k s M) (hw : (k : Int) ≠ wt) : False := by
  unfold DoneL at h
  rw [if_neg hw] at h
  exact h.2 he M hc
theorem best_len {p : Pf} {wt : Int} {s k : Nat} {L : List Nat} (h : IsBest p.n p.sure wt k s L) : L.length ≤ k + 1 := by
  have := h.ch.len; omega
theorem bestTo_len {p : Pf} {wt : Int} {s j i : Nat} {B : List Nat} (h : BestTo p.n p.sure wt s j i B) : B.length ≤ i + 1 := by
  by_cases e : B = []
  · rw [e]; simp
  · obtain ⟨k, L, h1, rfl, h2, -⟩ := h.has e
    have := h2.len
    simp only [List.length_append, List.length_cons, List.length_nil]
    omega
set_option maxRecDepth 20000 in
set_option maxHeartbeats 4000000 in
theorem rbest_any {B : Nat} {p : Pf} {av gv : Value} {sf st : Nat} {wt : Int} {w : World} (hp : p.Ok) (hft : sf < st) (hto : st < p.n) (hwt : wt ≠ sf ∧ wt ≠ st) (hB : B ≤ w.heap.size) (ha : RS B w av p.ats.length (ints p.ats)) (hg : RS B w gv p.gr.length (spans p.gr)) :
    Calls Try.prog 67 #[.agg #[av, gv, .int .i64 p.tall, .int .i64 p.lo, .int .i64 p.hi], .int .i64 sf, .int .i64 st, .int .i64 wt] w fun e w' => ∃ v L, e = .returned v ∧ RS w'.heap.size w' v L.length (ints (L.map Int.ofNat)) ∧ (L ≠ [] → IsBest p.n p.sure wt st sf L) ∧ (L = [] → ∀ M, ¬ Ch p.n p.sure wt st sf M) ∧ Below w.heap.size w w' := by
  have HR := Lib.hid (And.intro hB (And.intro ha (And.intro hg (And.intro hp hwt))))
  have h1g := (by obtain ⟨a, c, rfl, -⟩ := hg; rfl : gv.oneCell' = true)
  obtain ⟨a, ac, rfl, hac⟩ := ha
  obtain ⟨av, hav⟩ : ∃ x, x = Value.slice a p.ats.length ac := ⟨_, rfl⟩
  obtain ⟨n, hn⟩ : ∃ x, x = p.ats.length := ⟨_, rfl⟩
  have HN : Hid (n = p.n ∧ n ≤ 40 ∧ 2 ≤ n) := Lib.hid ⟨hn, by rw [hn]; exact hp.n40, by rw [hn]; exact hp.n2⟩
  have htn : st < n := by rw [hn]; exact hto
  have hfn : sf < n := by omega
  have n40 := HN.out.2.1
  have HAV : Hid (av = .slice a n ac ∧ .slice a p.ats.length ac = av) := Lib.hid ⟨by rw [hn, hav], hav.symm⟩
  rw [← hn]
  obtain ⟨i1, hi1, hz10, hz11, hz12⟩ := info_parts infoRow
  have HIR := Lib.hid (And.intro hi1 (And.intro hz10 (And.intro hz11 hz12)))
  obtain ⟨i0, hi0, hz0, hz1, hz2⟩ := info_parts Try.infoInt
  have HI := Lib.hid (And.intro hi0 (And.intro hz0 (And.intro hz1 hz2)))
  have HMB : Hid (Below w.heap.size w (w.alloc (.cells #[.slice a n ac, gv, .int .i64 p.tall, .int .i64 p.lo, .int .i64 p.hi] 35))) := Lib.hid ((Below.refl _ w).alloc (Nat.le_refl _) _)
  have HM : Hid (PfC (w.alloc (.cells #[.slice a n ac, gv, .int .i64 p.tall, .int .i64 p.lo, .int .i64 p.hi] 35)) w.heap.size p (.slice a n ac) gv) := Lib.hid ⟨by simp [go_sem], by simp [go_sem], by simp [go_sem], by simp [go_sem], by simp [go_sem]⟩
  have HRA : Hid (RS B w (.slice a n ac) p.ats.length (ints p.ats) ∧ RS B w gv p.gr.length (spans p.gr) ∧ B ≤ w.heap.size ∧ p.Ok) := Lib.hid ⟨by rw [hn]; exact HR.out.2.1, hg, hB, hp⟩
  have HWT : Hid (wt ≠ (sf : Int) ∧ wt ≠ (st : Int)) := Lib.hid hwt
  clear HR
  clear hi1 hz10 hz11 hz12 hi0 hz0 hz1 hz2 hav hac hp hB hg hwt hto hn
  go_enter Try.func67, Try.ntmps67
  go_upto_region 1 with (fail)
  obtain ⟨q, hq⟩ : ∃ q, q = w.heap.size := ⟨_, rfl⟩
  have HQ := Lib.hid hq
  rw [← hq] at HM
  simp only [← hq]
  clear hq
  generalize w.alloc (.cells #[.slice a n ac, gv, .int .i64 p.tall, .int .i64 p.lo, .int .i64 p.hi] 35) = w1 at HM HMB ⊢
  obtain ⟨k0, k1, k2, k3, k4⟩ := HM.out
  go_upto_region 2 with (refine wpList_make_full _ rfl _ _ 48 rfl w.heap.size 22 i1 (.slice none 0 0) 1 Try.underlying48 HIR.out.1 HIR.out.2.1 HIR.out.2.2.1 .i64 .i64 _ _ n rfl rfl rfl rfl (by rw [HIR.out.2.2.2]; omega) (by unfold maxLen; omega) HMB.out.size ?_; intro w2 hown2 hgr2)
  obtain ⟨g, hgg⟩ : ∃ g, g = w1.heap.size := ⟨_, rfl⟩
  have hqg : q ≠ g := by have := World.block_lt_of_cell? _ _ k0; simp only at this; omega
  have hb2 : Below w1.heap.size w1 w2 := (Below.refl _ w1).grown hgr2 (Nat.le_refl _) (fun j e => by cases e)
  have M0 : BeM w q g n (.slice a n ac) gv p (fun _ => .slice none 0 0) (fun _ => []) w2 := ⟨HMB.out.trans (hb2.mono HMB.out.size), HM.out.grow hb2, by rw [rows_made, ← hgg] at hown2; exact hown2, fun k _ => LiG.nil _ _, by rw [hgg]; exact HMB.out.size, hqg⟩
  simp only [← hgg]
  have kf0 := M0.at hfn
  have hg2 : g < w2.heap.size := World.block_lt_of_cell? _ _ kf0
  have MA := M0.grow ((Below.refl _ w2).alloc (Nat.le_refl _) (.cells #[.int .i64 (sf : Int)] 3))
  have kf := MA.at hfn
  have fz := MA.fr sf
  have M1 := Lib.hid (MA.put hfn (v := .slice (some ⟨w2.heap.size, 0, none⟩) 1 1) (L := [sf]) ⟨_, _, rfl, fun _ => ⟨w2.heap.size, 0, rfl, by omega, by simp, fun k hk => by
    have : k = 0 := by simpa using hk
    subst this
    simp [go_sem]⟩⟩)
  clear M0 MA kf0 hg2 hown2 hgr2 hb2 hqg hgg HM k0 k1 k2 k3 k4
  go_upto_region 3 with (fail)
  clear kf fz
  generalize (w2.alloc (.cells #[.int .i64 (sf : Int)] 3)).setCell ⟨g, sf, none⟩ (.slice (some ⟨w2.heap.size, 0, none⟩) 1 1) = w3 at M1 ⊢
  have h1f : sf + 1 < 100 := by omega
  go_wp2_with fail
  go_loopw [10] (fun jv W => ∃ (j : Nat) (V : Nat → Value) (Ls : Nat → List Nat), sf + 1 ≤ j ∧ j ≤ st + 1 ∧ jv = .int .i64 (j : Int) ∧ Hid (∀ i, sf ≤ i → i < j → DoneL p wt sf i (Ls i)) ∧ Hid (∀ i, j ≤ i → Ls i = []) ∧ Hid (BeM w q g n (.slice a n ac) gv p V Ls W)) (fun jv _ => st + 1 - (intOf jv).toNat)
  case atStart =>
    refine ⟨sf + 1, _, _, Nat.le_refl _, by omega, by go_num, Lib.hid (fun i h1 h2 => ?_), Lib.hid (fun i h1 => by rw [upF_off _ _ (by omega)]), M1⟩
    obtain rfl : i = sf := by omega
    rw [upF_same]
    unfold DoneL
    rw [if_neg (fun e => HWT.out.1 e.symm)]
    exact ⟨fun _ => IsBest.here, fun e => by cases e⟩
  case round =>
    clear M1
    obtain ⟨j, V, Ls, hj1, hj2, rfl, hdone, hempty, hbm⟩ := hrel
    obtain ⟨wo, rfl⟩ : ∃ x, x = wr := ⟨_, rfl⟩
    have j64 : j < 100 := by omega
    by_cases hlt : j ≤ st
    · have hjn : j < n := by omega
      by_cases hw : (j : Int) = wt
      · have dw : ((j : Int) == wt) = true := by rw [hw]; simp
        have HW := Lib.hid hw
        clear hw
        go_wp2
        go_roundw
        case rel =>
          refine ⟨j + 1, V, Ls, by omega, by omega, by go_num, Lib.hid (fun i h1 h2 => ?_), Lib.hid (fun i h1 => hempty.out i (by omega)), hbm⟩
          by_cases e : i = j
          · rw [e, DoneL, if_pos HW.out]; exact hempty.out j (Nat.le_refl _)
          · exact hdone.out i h1 (by omega)
        case measure => simp [intOf]; omega
      · have dw : ((j : Int) == wt) = false := beq_eq_false_iff_ne.2 hw
        have HW := Lib.hid hw
        clear hw
        go_wp2_with fail
        go_loopw [11] (fun iv W => ∃ (i : Nat) (V2 : Nat → Value) (Bl : List Nat), sf ≤ i ∧ i ≤ j ∧ iv = .int .i64 (i : Int) ∧ Hid (BestTo p.n p.sure wt sf j i Bl) ∧ Hid (BeM w q g n (.slice a n ac) gv p V2 (upF Ls j Bl) W)) (fun iv _ => j - (intOf iv).toNat)
        case atStart => exact ⟨sf, V, [], Nat.le_refl _, by omega, by go_num, Lib.hid BestTo.begin, Lib.hid (hbm.out.ext (fun k _ => by by_cases e : k = j; (rw [e, upF_same]; exact hempty.out j (Nat.le_refl _)); (rw [upF_off _ _ e])))⟩
        case round =>
          clear hbm
          obtain ⟨i, V2, Bl, hi1, hi2, rfl, hbt, hbm⟩ := hrel
          have i64 : i < 100 := by omega
          by_cases hij : i < j
          · skip
            have hin : i < n := by omega
            obtain ⟨ai, ci, hvi, hci⟩ := hbm.out.li i hin
            have ki := hbm.out.at hin
            rw [hvi] at ki
            rw [upF_off _ _ (by omega)] at ki hci
            obtain ⟨m, hm⟩ : ∃ m, m = (Ls i).length := ⟨_, rfl⟩
            rw [← hm] at ki
            have HI0 : Hid (DoneL p wt sf i (Ls i)) := Lib.hid (hdone.out i hi1 hij)
            have HVI : Hid (V2 i = .slice ai m ci) := Lib.hid (by rw [hvi, upF_off _ _ (by omega), hm])
            clear hvi
            by_cases he : m = 0
            · subst he
              have HE0 : Hid (Ls i = []) := Lib.hid (List.eq_nil_of_length_eq_zero hm.symm)
              clear hm hci
              go_wp2
              go_roundw
              case rel => exact ⟨i + 1, V2, Bl, by omega, by omega, by go_num, Lib.hid (hbt.out.skip (fun L hc _ hw => HI0.out.none HE0.out L hc hw)), hbm⟩
              case measure => simp [intOf]; omega
            · have dm : ((m : Int) == 0) = false := beq_eq_false_iff_ne.2 (by omega)
              have hne : Ls i ≠ [] := fun e => he (by rw [hm, e]; rfl)
              obtain ⟨bi, oi, rfl, hbi⟩ := hci hne
              have HCI : Hid (Ls i ≠ [] ∧ m = (Ls i).length) := Lib.hid ⟨hne, hm⟩
              clear hne hm hci hbi
              obtain ⟨c0, c1, c2, c3, c4⟩ := hbm.out.c
              go_wp2_with fail
              refine (rsure_any HRA.out.2.2.2 (by have := HN.out.1; omega) (by have := HN.out.1; omega) (Nat.le_trans HRA.out.2.2.1 hbm.out.be.size) (HRA.out.1.below (hbm.out.be.mono HRA.out.2.2.1)) (HRA.out.2.1.below (hbm.out.be.mono HRA.out.2.2.1))).mono ?_
              rintro e w5 ⟨rfl, hb5⟩
              have HM5 := Lib.hid (hbm.out.grow hb5)
              clear c0 c1 c2 c3 c4 ki hb5
              obtain ⟨sv, hsv⟩ : ∃ s, s = p.sure i j := ⟨_, rfl⟩
              rw [← hsv]
              have HSV := Lib.hid hsv
              clear hsv
              cases sv with
              | false =>
                go_wp2
                go_roundw
                case rel => exact ⟨i + 1, V2, Bl, by omega, by omega, by go_num, Lib.hid (hbt.out.skip (fun L hc hS hw => by rw [← HSV.out] at hS; cases hS)), HM5⟩
                case measure => simp [intOf]; omega
              | true =>
                have HD0 := Lib.hid (HI0.out.best HCI.out.1)
                have hm41 : m ≤ 41 := by have := best_len HD0.out.2; have := HCI.out.2; omega
                have hg5 : g < w5.heap.size := World.block_lt_of_cell? _ _ (HM5.out.at hin)
                have HG5 := Lib.hid hg5
                have HB6 : Hid (Below w5.heap.size w5 (w5.alloc (.cells #[] 3))) := Lib.hid ((Below.refl _ w5).alloc (Nat.le_refl _) _)
                have HM6 := Lib.hid (HM5.out.grow HB6.out)
                have ki := HM6.out.at hin
                rw [HVI.out] at ki
                have HCC : Hid (∀ (k : Nat) (u : Value), (ints ((Ls i).map Int.ofNat))[k]? = some u → (w5.alloc (.cells #[] 3)).cell? ⟨bi, oi + k, none⟩ = some u) := Lib.hid (by
                  have h1 := (HM6.out.li i hin).rs
                  rw [HVI.out, upF_off _ _ (by omega)] at h1
                  obtain ⟨a', c', e1, h2⟩ := h1
                  obtain ⟨b', o', e2, -, h3⟩ := h2 (nats_ne HCI.out.1)
                  cases e1
                  cases e2
                  exact h3)
                clear hg5
                go_upto_region 12 with (at_builtin; first
                  | (refine wpList_append_own _ rfl _ _ 22 rfl w5.heap.size 3 i0 (.int .i64 0) 1 8 Try.underlying22 HI.out.1 HI.out.2.1 HI.out.2.2.1 HI.out.2.2.2 rfl (by decide) (.slice (some ⟨w5.heap.size, 0, none⟩) 0 0) 0 [] rfl (owns_empty w5 (Nat.le_refl _) _) ⟨bi, oi, none⟩ m ci (ints ((Ls i).map Int.ofNat)) rfl (by rw [HCI.out.2]; simp [ints]) (fun k u hk => by rw [addr_add]; exact HCC.out k u hk) (ints_one _) (by unfold maxLen; omega) (by omega) (by simp) ?_
                     intro v7 w7 hown7 hgr7 _
                     have HB7 : Hid (Below w5.heap.size w5 w7) := Lib.hid (HB6.out.grown hgr7 (by simp) (fun k e => by cases e; exact Nat.le_refl _))
                     have HO7 : Hid (w7.ownsRow w5.heap.size 3 1 v7 m (ints ((Ls i).map Int.ofNat))) := Lib.hid (by simpa using hown7)
                     clear hown7 hgr7)
                  | (refine wpList_append_own _ rfl _ _ 22 rfl w5.heap.size 3 i0 (.int .i64 0) 1 8 Try.underlying22 HI.out.1 HI.out.2.1 HI.out.2.2.1 HI.out.2.2.2 rfl (by decide) v7 m (ints ((Ls i).map Int.ofNat)) rfl (HO7.out.alloc _) ⟨w7.heap.size, 0, none⟩ 1 1 [.int .i64 (j : Int)] rfl rfl (cell_one_new _ _ _) (by simp [Value.oneCell']) (by unfold maxLen; omega) (by omega) (by have := HB7.out.size; simp; omega) ?_
                     intro v8 w8 hown8 hgr8 _
                     have HB8 : Hid (Below w5.heap.size w5 w8) := Lib.hid ((HB7.out.alloc HB7.out.size _).grown hgr8 (by have := HB7.out.size; simp; omega) (fun k e => by have := (HO7.out.lt k e).1; omega))
                     have HO8 : Hid (w8.ownsRow w5.heap.size 3 1 v8 (m + 1) (ints (((Ls i) ++ [j]).map Int.ofNat))) := Lib.hid (by simpa [ints] using hown8)
                     clear hown8 hgr8))
                have HM8 := Lib.hid (HM5.out.grow HB8.out)
                have HL8 : Hid (LiG g w8 v8 (Ls i ++ [j])) := Lib.hid (LiG.of_owns (by rw [List.length_append, List.length_singleton, ← HCI.out.2]; exact HO8.out) HG5.out)
                obtain ⟨aj, cj, hvj, hcj⟩ := HM8.out.li j hjn
                rw [upF_same] at hvj hcj
                have kj := HM8.out.at hjn
                rw [hvj] at kj
                obtain ⟨bl, hbl⟩ : ∃ x, x = Bl.length := ⟨_, rfl⟩
                rw [← hbl] at kj
                have HVJ : Hid (V2 j = .slice aj Bl.length cj ∧ bl = Bl.length) := Lib.hid ⟨hvj, hbl⟩
                obtain ⟨a8, c8, e8, -⟩ := HL8.out
                obtain ⟨m8, hm8⟩ : ∃ x, x = (Ls i ++ [j]).length := ⟨_, rfl⟩
                rw [← hm8] at e8
                subst e8
                clear hm8
                clear hvj hcj hbl ki
                by_cases hb0 : bl = 0
                · subst hb0
                  have hBl : Hid (Bl = []) := Lib.hid (List.eq_nil_of_length_eq_zero HVJ.out.2.symm)
                  have fz := HM8.out.fr j
                  go_wp2
                  go_roundw
                  case rel =>
                    refine ⟨i + 1, upF V2 j (.slice a8 m8 c8), Ls i ++ [j], by omega, by omega, by go_num, Lib.hid (hbt.out.put hij HSV.out.symm HD0.out.1 HD0.out.2 (.inl hBl.out)), Lib.hid (((HM8.out).put hjn HL8.out).ext (fun k _ => ?_))⟩
                    by_cases e : k = j
                    · rw [e, upF_same, upF_same]
                    · rw [upF_off _ _ e, upF_off _ _ e, upF_off _ _ e]
                  case measure => simp [intOf]; omega
                · have db : ((bl : Int) == 0) = false := beq_eq_false_iff_ne.2 (by omega)
                  go_wp2_with fail
                  have hbe : RS w8.heap.size w8 (.slice aj bl cj) Bl.length (ints (Bl.map Int.ofNat)) := by
                    have := (HM8.out.li j hjn).rs
                    rw [HVJ.out.1, upF_same, ← HVJ.out.2] at this
                    rw [← HVJ.out.2]
                    exact this
                  refine (before_any (L := Ls i ++ [j]) (M := Bl) (by rw [List.length_append, List.length_singleton, ← HCI.out.2]; omega) (by have := bestTo_len hbt.out; omega) ⟨Nat.le_refl _, Nat.le_refl _⟩ HL8.out.rs hbe).mono ?_
                  rintro e w9 ⟨b9, rfl, hb9, hbw9⟩
                  have HM9 := Lib.hid (HM8.out.grow hbw9)
                  have HL9 := Lib.hid (HL8.out.grow hbw9)
                  have HB9 := Lib.hid hb9
                  clear hbe hb9 hbw9 kj
                  cases b9 with
                  | true =>
                    have kj := HM9.out.at hjn
                    have fz := HM9.out.fr j
                    go_wp2
                    go_roundw
                    case rel =>
                      refine ⟨i + 1, upF V2 j (.slice a8 m8 c8), Ls i ++ [j], by omega, by omega, by go_num, Lib.hid (hbt.out.put hij HSV.out.symm HD0.out.1 HD0.out.2 (.inr (HB9.out.1 (by trivial)))), Lib.hid (((HM9.out).put hjn HL9.out).ext (fun k _ => ?_))⟩
                      by_cases e : k = j
                      · rw [e, upF_same, upF_same]
                      · rw [upF_off _ _ e, upF_off _ _ e, upF_off _ _ e]
                    case measure => simp [intOf]; omega
                  | false =>
                    go_wp2
                    go_roundw
                    case rel =>
                      refine ⟨i + 1, V2, Bl, by omega, by omega, by go_num, Lib.hid (hbt.out.keep HD0.out.2 (fun ht => ?_)), HM9⟩
                      rcases ht with ht | ht
                      · rw [ht] at HVJ; exact hb0 HVJ.out.2
                      · have := HB9.out.2 ht; cases this
                    case measure => simp [intOf]; omega
          · obtain rfl : i = j := by omega
            go_wp2
            go_roundw
            case rel =>
              refine ⟨i + 1, V2, upF Ls i Bl, by omega, by omega, by go_num, Lib.hid (fun k h1 h2 => ?_), Lib.hid (fun k h1 => by rw [upF_off _ _ (by omega)]; exact hempty.out k (by omega)), hbm⟩
              by_cases e : k = i
              · rw [e, upF_same, DoneL, if_neg HW.out]
                exact hbt.out.done (by omega) (by have := HN.out.1; omega)
              · rw [upF_off _ _ e]
                exact hdone.out k h1 (by omega)
            case measure => simp [intOf]; omega
    · have hj3 : j = st + 1 := by omega
      have HD := Lib.hid (hdone.out st (by omega) (by omega))
      obtain ⟨as', cs, hvs, hcs⟩ := hbm.out.li st htn
      have ks := hbm.out.at htn
      have HLI := Lib.hid (hbm.out.li st htn)
      rw [hvs] at ks HLI
      clear hvs hcs
      go_wp2
      go_ret
      have hd := HD.out
      unfold DoneL at hd
      rw [if_neg (fun e => HWT.out.2 e.symm)] at hd
      exact ⟨_, Ls st, rfl, HLI.out.rs, hd.1, hd.2, hbm.out.be⟩
end Go.Proofs.Ytobmhamdkngehaa
