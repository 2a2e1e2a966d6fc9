/-
  Parts of the proof, in the order in which they build: RefO, RefP, LawF.
-/
import Derived.Test.YtdgibmgifgdpbaaG22
import Derived.Test.YtdgibmgifgdpbaaG18
set_option linter.unusedVariables false
set_option linter.unusedSimpArgs false
/-
  Saddles as the reference counts them, truth by truth: the contract of Saddles.
-/
namespace Go.Proofs.Ytdgibmgifgdpbaa
open Go.RowKit Go.Shelf
open Lim

/-- whether a cell is a saddle in a truth -/
def Sd (g : Gd) (t : Nat → Int) (c : Nat) : Prop := ∃ h, IsSaddle g t h ∧ R g t 1 h c ∧ R g t 2 h c ∧ t c = h
/-- what the first k truths say, and the next one as far as the first d cells go -/
def SadSaid (g : Gd) (k d : Nat) (o : Nat → Bool) : Prop := ∀ c, c < g.n → (o c = true ↔ (∃ t, t < k ∧ Sd g (decT g t) c) ∨ (c < d ∧ Sd g (decT g k) c))
theorem SadSaid.none {g : Gd} : SadSaid g 0 0 (fun _ => false) := fun c hc => ⟨fun h => (by cases h), fun h => h.elim (fun ⟨t, h, _⟩ => absurd h (by omega)) (fun h => absurd h.1 (by omega))⟩
theorem SadSaid.done {g : Gd} {k : Nat} {o : Nat → Bool} (h : SadSaid g k g.n o) : SadSaid g (k + 1) 0 o := fun c hc => by
  rw [h c hc]
  constructor
  · rintro (⟨t, ht, hd⟩ | ⟨-, hd⟩)
    · exact .inl ⟨t, by omega, hd⟩
    · exact .inl ⟨k, by omega, hd⟩
  · rintro (⟨t, ht, hd⟩ | ⟨h1, -⟩)
    · by_cases e : t = k
      · subst e; exact .inr ⟨hc, hd⟩
      · exact .inl ⟨t, by omega, hd⟩
    · omega
theorem SadSaid.set {g : Gd} {k d : Nat} {o : Nat → Bool} {b : Bool} (h : SadSaid g k d o) (hd : d < g.n) (hb : b = true ↔ o d = true ∨ Sd g (decT g k) d) : SadSaid g k (d + 1) (fun x => if x = d then b else o x) := fun c hc => by
  dsimp only
  by_cases e : c = d
  · subst e
    rw [if_pos rfl, hb, h c hc]
    constructor
    · rintro ((h1 | ⟨h1, -⟩) | h1)
      · exact .inl h1
      · omega
      · exact .inr ⟨by omega, h1⟩
    · rintro (h1 | ⟨-, h1⟩)
      · exact .inl (.inl h1)
      · exact .inr h1
  · rw [if_neg e, h c hc]
    constructor
    · rintro (h1 | ⟨h1, h2⟩)
      · exact .inl h1
      · exact .inr ⟨by omega, h2⟩
    · rintro (h1 | ⟨h1, h2⟩)
      · exact .inl h1
      · exact .inr ⟨by omega, h2⟩
theorem bl_put {n : Nat} (M : Nat → Bool) (b : Bool) {c : Nat} (h : c < n) : (bl n M).set c (.bool b) = bl n (fun x => if x = c then b else M x) := by
  apply List.ext_getElem?
  intro j
  rw [List.getElem?_set]
  by_cases hj : j < n
  · rw [bl_at (fun x => if x = c then b else M x) hj]
    by_cases e : c = j
    · subst e; rw [if_pos rfl, if_pos (by rw [bl_length]; exact h), if_pos rfl]
    · rw [if_neg e, bl_at _ hj, if_neg (fun e' => e e'.symm)]
  · rw [if_neg (by omega), List.getElem?_eq_none (by rw [bl_length]; omega), List.getElem?_eq_none (by rw [bl_length]; omega)]
/-- memory while saddles are counted -/
structure SaM (w : World) (m : Nat) (hv sv : Value) (q n : Nat) (o : Nat → Bool) (W : World) : Prop where
  f0 : W.cell? ⟨w.heap.size, 0, none⟩ = some (.int .i64 m)
  f1 : W.cell? ⟨w.heap.size, 1, none⟩ = some hv
  f2 : W.cell? ⟨w.heap.size, 2, none⟩ = some sv
  own : W.ownsRow (w.heap.size + 1) 4 1 (.slice (some ⟨q, 0, none⟩) n n) n (bl n o)
  lt : w.heap.size < q
  be : Below w.heap.size w W
theorem SaM.at {w : World} {m : Nat} {hv sv : Value} {q n : Nat} {o : Nat → Bool} {W : World} (h : SaM w m hv sv q n o W) {k : Nat} (hk : k < n) : W.cell? ⟨q, k, none⟩ = some (.bool (o k)) := by
  rw [h.own.cellAt k (by omega), bl_at o hk]
theorem SaM.below {w : World} {m : Nat} {hv sv : Value} {q n : Nat} {o : Nat → Bool} {W W' : World} (h : SaM w m hv sv q n o W) (hb : Below W.heap.size W W') : SaM w m hv sv q n o W' :=
  ⟨cell_on hb h.f0, cell_on hb h.f1, cell_on hb h.f2, owns_below h.own hb, h.lt, h.be.trans (hb.mono h.be.size)⟩
theorem SaM.store {w : World} {m : Nat} {hv sv : Value} {q n : Nat} {o : Nat → Bool} {W : World} (h : SaM w m hv sv q n o W) {k : Nat} (hk : k < n) (b : Bool) : SaM w m hv sv q n (fun y => if y = k then b else o y) (W.setCell ⟨q, k, none⟩ (.bool b)) := by
  refine ⟨(setCell_far _ _ (Nat.ne_of_gt h.lt)).trans h.f0, (setCell_far _ _ (Nat.ne_of_gt h.lt)).trans h.f1, (setCell_far _ _ (Nat.ne_of_gt h.lt)).trans h.f2, ?_, h.lt, h.be.setCell (p := ⟨q, k, none⟩) (Nat.le_of_lt h.lt) _⟩
  have := (h.own.stored k (.bool b)).1
  rw [bl_put o b hk] at this
  exact this
def sadNames (o : Nat → Bool) (k : Nat) : List Nat := (List.range k).filter o
theorem sadNames_succ (o : Nat → Bool) (k : Nat) : sadNames o (k + 1) = if o k = true then sadNames o k ++ [k] else sadNames o k := by
  unfold sadNames
  rw [List.range_succ, List.filter_append, List.filter_cons, List.filter_nil]
  split
  · rfl
  · rw [List.append_nil]
theorem sadNames_len (o : Nat → Bool) (k : Nat) : (sadNames o k).length ≤ k := by
  have := List.length_filter_le o (List.range k)
  simpa [sadNames] using this
/-- what the reference's Saddles answers -/
def RSadAns (m : Nat) (hs : List (Int × Int)) (ss : List Int) (er : Int) (L : List Nat) : Prop :=
  ∃ x y, SadAns m hs ss x y er ∧ (er ≠ 0 → L = []) ∧ (er = 0 → ∃ o, L = sadNames o ss.length ∧ SadSaid ⟨m, hs, ss⟩ (trsTo ⟨m, hs, ss⟩ ss.length).toNat 0 o)

set_option maxRecDepth 20000 in
set_option maxHeartbeats 4000000 in
theorem rsaddles_any {B m : Nat} {hv sv : Value} {hs : List (Int × Int)} {ss : List Int} {w : World} (hB : B ≤ w.heap.size) (hh : RS B w hv hs.length (spans hs)) (hss : RS B w sv ss.length (ints ss)) (he : openErr m hs ss = 0) :
    Calls Try.prog 24 #[.agg #[.int .i64 m, hv, sv]] w fun e w' => ∃ v er L, e = .returned (.tuple #[v, .int .i64 er]) ∧ w'.ownsRow w.heap.size 3 1 v L.length (ints (L.map Int.ofNat)) ∧ RSadAns m hs ss er L ∧ Below w.heap.size w w' := by
  have B1 : Below w.heap.size w (w.alloc (.cells #[.int .i64 m, hv, sv] 28)) := (Below.refl _ w).alloc (Nat.le_refl _) _
  have CO := Lib.hid (rsaddle_any (B := B) (wd := m) (w := w.alloc (.cells #[.int .i64 m, hv, sv] 28)) (by have := B1.size; omega) (hh.below (B1.mono hB)) (hss.below (B1.mono hB)))
  have HOK : Hid (Gd.Ok ⟨m, hs, ss⟩) := Lib.hid (openErr_ok he)
  have HSO : Hid (SpansOk ⟨m, hs, ss⟩) := Lib.hid (fun c hc => ends_range2 (wd := m) he hc)
  have hlen : hs.length = ss.length := HOK.out.hn
  have hl : ss.length ≤ 100 := HOK.out.n1
  have hpos : 0 < ss.length := by
    have := (openErr_zero he).2.2.2.1
    exact List.length_pos_of_mem this
  have HRS := Lib.hid (And.intro hh (And.intro hss hB))
  obtain ⟨ha, hcap, rfl, -⟩ := hh
  obtain ⟨sa, scap, rfl, -⟩ := hss
  have HL := Lib.hid hlen
  clear he hlen
  have f0 : (w.alloc (.cells #[.int .i64 m, .slice ha hs.length hcap, .slice sa ss.length scap] 28)).cell? ⟨w.heap.size, 0, none⟩ = some (.int .i64 m) := by simp [go_sem]
  have f1 : (w.alloc (.cells #[.int .i64 m, .slice ha hs.length hcap, .slice sa ss.length scap] 28)).cell? ⟨w.heap.size, 1, none⟩ = some (.slice ha hs.length hcap) := by simp [go_sem]
  have f2 : (w.alloc (.cells #[.int .i64 m, .slice ha hs.length hcap, .slice sa ss.length scap] 28)).cell? ⟨w.heap.size, 2, none⟩ = some (.slice sa ss.length scap) := by simp [go_sem]
  have HF := Lib.hid (And.intro B1 (And.intro f0 (And.intro f1 f2)))
  clear f0 f1 f2 B1
  have CTR : Hid (∀ W, Below w.heap.size w W → Calls Try.prog 17 #[.agg #[.int .i64 m, .slice ha hs.length hcap, .slice sa ss.length scap]] W fun e w' => e = .returned (.int .i64 (trsTo ⟨m, hs, ss⟩ ss.length)) ∧ Below W.heap.size W w') := Lib.hid (fun W hbW =>
    truths_any (B := B) (by have h1 := HRS.out.2.2; have h2 := hbW.size; omega) (HRS.out.1.below (hbW.mono HRS.out.2.2)) (HRS.out.2.1.below (hbW.mono HRS.out.2.2)) HOK.out HSO.out)
  have CTH : Hid (∀ (n : Nat) W, n ≤ 1000000 → Below w.heap.size w W → Calls Try.prog 59 #[.agg #[.int .i64 m, .slice ha hs.length hcap, .slice sa ss.length scap], .int .i64 n] W fun e w' => ∃ v, e = .returned v ∧ w'.ownsRow W.heap.size 3 1 v hs.length (ints ((List.range hs.length).map (decT ⟨m, hs, ss⟩ n))) ∧ Below W.heap.size W w') := Lib.hid (fun n W hn hbW =>
    rtruth_any (B := B) (by have h1 := HRS.out.2.2; have h2 := hbW.size; omega) (HRS.out.1.below (hbW.mono HRS.out.2.2)) (HRS.out.2.1.below (hbW.mono HRS.out.2.2)) HOK.out HSO.out hpos hn)
  obtain ⟨N, hN⟩ : ∃ N : Nat, trsTo ⟨m, hs, ss⟩ ss.length = N ∧ N ≤ 1000000 := by
    have := trsTo_range HSO.out ss.length (Nat.le_refl _)
    exact ⟨(trsTo ⟨m, hs, ss⟩ ss.length).toNat, by omega, by omega⟩
  have hN2 := hN.2
  have HN := Lib.hid hN.1
  rw [hN.1] at CTR
  clear hN
  go_enter Try.func24, Try.ntmps24
  go_wp2_with fail
  refine CO.out.mono ?_
  clear CO
  rintro e w1 ⟨x, y, er, rfl, hsa, hb1⟩
  have hb2 : Below w1.heap.size w1 (w1.alloc (.cells #[.int .i64 x, .int .i64 y] 54)) := (Below.refl _ _).alloc (Nat.le_refl _) _
  have HB12 := Lib.hid (hb1.trans (hb2.mono hb1.size))
  have HF1 := Lib.hid (And.intro (HF.out.1.trans (HB12.out.mono HF.out.1.size)) (And.intro (cell_on HB12.out HF.out.2.1) (And.intro (cell_on HB12.out HF.out.2.2.1) (cell_on HB12.out HF.out.2.2.2))))
  have HSA := Lib.hid hsa
  clear hb1 hb2 HF HB12 hsa
  have f2 := HF1.out.2.2.2
  by_cases her : er = 0
  · have HER := Lib.hid her
    have he1 : (er != 0) = false := by simp [her]
    clear her
    obtain ⟨i0, hi, hz0, hz1, hz2⟩ := info_parts Try.infoBool
    obtain ⟨j0, hj, hy0, hy1, hy2⟩ := info_parts Try.infoInt
    have HI := Lib.hid (And.intro hi (And.intro hz0 (And.intro hz1 hz2)))
    have HJ := Lib.hid (And.intro hj (And.intro hy0 (And.intro hy1 hy2)))
    clear hi hz0 hz1 hz2 hj hy0 hy1 hy2
    have hlt1 : w.heap.size < (w1.alloc (.cells #[.int .i64 x, .int .i64 y] 54)).heap.size := World.block_lt_of_cell? _ _ HF1.out.2.1
    have HLT := Lib.hid hlt1
    go_wp2_with (refine wpList_make_full _ rfl _ _ 72 rfl (w.heap.size + 1) 4 i0 (.bool false) 1 Try.underlying72 HI.out.1 HI.out.2.1 HI.out.2.2.1 .i64 .i64 _ _ ss.length rfl rfl rfl rfl (by rw [HI.out.2.2.2]; omega) (by unfold maxLen; omega) HLT.out ?_; intro w3 hown3 hgr3)
    have hsz2 : (w1.alloc (.cells #[.int .i64 x, .int .i64 y] 54)).heap.size = w1.heap.size + 1 := by simp
    generalize hW2 : (w1.alloc (.cells #[.int .i64 x, .int .i64 y] 54)) = w2 at HF1 f2 HLT hown3 hgr3 hlt1 hsz2 ⊢
    clear hW2
    rw [hsz2] at hown3 hlt1
    have HM0 : Hid (SaM w m (.slice ha hs.length hcap) (.slice sa ss.length scap) (w1.heap.size + 1) ss.length (fun _ => false) w3) := Lib.hid (by
      rw [bl_made] at hown3
      have hb : Below w2.heap.size w2 w3 := ⟨hgr3.os, hgr3.tape, hgr3.output, hgr3.size, fun k hk => hgr3.block k hk (by simp)⟩
      exact ⟨cell_on hb HF1.out.2.1, cell_on hb HF1.out.2.2.1, cell_on hb HF1.out.2.2.2, hown3, hlt1, HF1.out.1.trans (hb.mono HF1.out.1.size)⟩)
    clear hown3 hgr3 HF1 f2 hlt1 HLT he1 hsz2
    obtain ⟨q, hq⟩ : ∃ q, q = w1.heap.size + 1 := ⟨_, rfl⟩
    rw [← hq] at HM0 ⊢
    clear hq
    go_loopw [7] (fun i W => ∃ (k : Nat) (o : Nat → Bool), k ≤ N ∧ i = .int .i64 k ∧ SaM w m (.slice ha hs.length hcap) (.slice sa ss.length scap) q ss.length o W ∧ Hid (SadSaid ⟨m, hs, ss⟩ k 0 o)) (fun i _ => N - (intOf i).toNat)
    case atStart => exact ⟨0, _, Nat.zero_le _, rfl, HM0.out, Lib.hid SadSaid.none⟩
    case round =>
      clear HM0
      obtain ⟨k, o, hk, rfl, L, hO⟩ := hrel
      have HLL := Lib.hid L
      obtain ⟨f0, f1, f2, -, -, -⟩ := L
      go_wp2_with fail
      refine (CTR.out wr HLL.out.be).mono ?_
      rintro e w6 ⟨rfl, hb6⟩
      have HL6 := Lib.hid (HLL.out.below hb6)
      clear hb6 HLL f0 f1 f2
      obtain ⟨f0, f1, f2, -, -, -⟩ := HL6.out
      by_cases hkN : k < N
      · go_wp2_with fail
        refine (CTH.out k w6 (by omega) HL6.out.be).mono ?_
        rintro e w8 ⟨v7, rfl, ho7, hb8⟩
        have HL8 := Lib.hid (HL6.out.below hb8)
        obtain ⟨ta, tcap, rfl, -⟩ := RS.of_owns ho7
        have HT8 := Lib.hid (RS.of_owns ho7)
        have HQ6 : q + 1 ≤ w6.heap.size := World.block_lt_of_cell? _ _ (HL6.out.at (k := 0) (by omega))
        have HW8 := Lib.hid (owns_mono ho7 HQ6)
        clear ho7 hb8 HL6 f0 f1 f2
        obtain ⟨f0, f1, f2, -, -, -⟩ := HL8.out
        go_wp2_with fail
        refine (least_any (B := w8.heap.size) (g := ⟨m, hs, ss⟩) (hv := .slice ha hs.length hcap) (T := (List.range hs.length).map (decT ⟨m, hs, ss⟩ k)) (tv := .slice ta hs.length tcap) HOK.out (by simp; exact HL.out) (Nat.le_refl _) ((HRS.out.2.1.below (HL8.out.be.mono HRS.out.2.2)).mono (by have h1 := HRS.out.2.2; have h2 := HL8.out.be.size; omega)) (by simpa using HT8.out)).mono ?_
        rintro e w9 ⟨h, rfl, hsd, hb9⟩
        have HL9 := Lib.hid (HL8.out.below hb9)
        have HT7 := Lib.hid (rs_grow HT8.out hb9)
        have TE : Hid (∀ c, land ⟨m, hs, ss⟩ c → ((List.range hs.length).map (decT ⟨m, hs, ss⟩ k)).getD c 0 = decT ⟨m, hs, ss⟩ k c) := Lib.hid (fun c hl => by
          have hc : c < hs.length := by have h5 : c < ss.length := hl.1; have := HL.out; omega
          simp [List.getD_eq_getElem?_getD, hc])
        have HSD : Hid (IsSaddle ⟨m, hs, ss⟩ (decT ⟨m, hs, ss⟩ k) h) := Lib.hid (IsSaddle.ext TE.out hsd)
        have HW9 := Lib.hid (owns_below HW8.out hb9)
        clear hb9 hsd HL8 HT8 HW8 f0 f1 f2
        have HLD := Lib.hid (HL9.out.below (Below.refl _ w9).drew)
        have HQQ1 : q + 1 ≤ w9.drew.heap.size := by have := World.block_lt_of_cell? _ _ (HLD.out.at (k := 0) (by omega)); exact this
        have hC : (fun W => W.cell? ⟨w.heap.size, 0, none⟩ = some (.int .i64 m) ∧ W.cell? ⟨w.heap.size, 1, none⟩ = some (.slice ha hs.length hcap) ∧ W.cell? ⟨w.heap.size, 2, none⟩ = some (.slice sa ss.length scap)) w9.drew := ⟨HLD.out.f0, HLD.out.f1, HLD.out.f2⟩
        have CRR : Hid (∀ (s : Int) (W : World), Below w.heap.size w W → RS W.heap.size W (.slice ta hs.length tcap) hs.length (ints ((List.range hs.length).map (decT ⟨m, hs, ss⟩ k))) → Calls Try.prog 68 #[.agg #[.int .i64 m, .slice ha hs.length hcap, .slice sa ss.length scap], .slice ta hs.length tcap, .int .i64 s, .int .i64 h] W fun e w' => ∃ v M, e = .returned v ∧ w'.ownsRow W.heap.size 4 1 v ss.length (bl ss.length M) ∧ (∀ c, c < ss.length → (M c = true ↔ R ⟨m, hs, ss⟩ (decT ⟨m, hs, ss⟩ k) s h c)) ∧ Below W.heap.size W w') := Lib.hid (fun s W hbW hv => by
          have h := reaches_any (B := W.heap.size) (g := ⟨m, hs, ss⟩) (hv := .slice ha hs.length hcap) (sv := .slice sa ss.length scap) (T := (List.range hs.length).map (decT ⟨m, hs, ss⟩ k)) (s := s) (h := h) (tv := .slice ta hs.length tcap) (w := W) HOK.out (by simp; exact HL.out) (Nat.le_refl _) ((HRS.out.2.1.below (hbW.mono HRS.out.2.2)).mono (by have h1 := HRS.out.2.2; have h2 := hbW.size; omega)) (by simpa using hv)
          refine h.mono ?_
          rintro e w' ⟨v, M, h1, h2, h3, h4⟩
          exact ⟨v, M, h1, h2, fun c hc => (h3 c hc).trans ⟨R.ext TE.out, R.ext (fun c hl => (TE.out c hl).symm)⟩, h4⟩)
        go_wp2_with fail
        refine Lim.regC' (fun W => W.cell? ⟨w.heap.size, 0, none⟩ = some (.int .i64 m) ∧ W.cell? ⟨w.heap.size, 1, none⟩ = some (.slice ha hs.length hcap) ∧ W.cell? ⟨w.heap.size, 2, none⟩ = some (.slice sa ss.length scap)) [] #[false, false, false, false, false, false, false, false, false, false] (by kernel_rfl) rfl ?_
        refine Lim.stepR 0 (fun _ => trivial) rfl (by kernel_rfl) (fun _ _ _ _ h => h) hC rfl ?_; apply Exists.intro; refine ⟨?_, ?_⟩
        · rintro w ⟨r1, r2, r3⟩; go_simp; try with_reducible rfl
        simp only [Act.put, List.setIfInBounds_toArray, List.set_cons_succ, List.set_cons_zero]
        refine Lim.stepR 1 (fun _ => trivial) rfl (by kernel_rfl) (fun _ _ _ _ h => h) hC rfl ?_; apply Exists.intro; refine ⟨?_, ?_⟩
        · rintro w ⟨r1, r2, r3⟩; go_simp; try with_reducible rfl
        simp only [Act.put, List.setIfInBounds_toArray, List.set_cons_succ, List.set_cons_zero]
        refine Lim.stepR 2 (fun _ => trivial) rfl (by kernel_rfl) (fun _ _ _ _ h => h) hC rfl ?_; apply Exists.intro; refine ⟨?_, ?_⟩
        · rintro w ⟨r1, r2, r3⟩; go_simp; try with_reducible rfl
        simp only [Act.put, List.setIfInBounds_toArray, List.set_cons_succ, List.set_cons_zero]
        refine Lim.stepR 4 (fun _ => trivial) rfl (by kernel_rfl) (fun _ _ _ _ h => h) hC rfl ?_; apply Exists.intro; refine ⟨?_, ?_⟩
        · rintro w ⟨r1, r2, r3⟩; go_simp; try with_reducible rfl
        simp only [Act.put, List.setIfInBounds_toArray, List.set_cons_succ, List.set_cons_zero]
        refine Lim.stepR 5 (fun _ => trivial) rfl (by kernel_rfl) (fun _ _ _ _ h => h) hC rfl ?_; apply Exists.intro; refine ⟨?_, ?_⟩
        · rintro w ⟨r1, r2, r3⟩; go_simp; try with_reducible rfl
        simp only [Act.put, List.setIfInBounds_toArray, List.set_cons_succ, List.set_cons_zero]
        refine Lim.stepR 6 (fun _ => trivial) rfl (by kernel_rfl) (fun _ _ _ _ h => h) hC rfl ?_; apply Exists.intro; refine ⟨?_, ?_⟩
        · rintro w ⟨r1, r2, r3⟩; go_simp; try with_reducible rfl
        simp only [Act.put, List.setIfInBounds_toArray, List.set_cons_succ, List.set_cons_zero]
        refine Lim.stepE 3 (fun _ => trivial) rfl (by kernel_rfl) rfl (fun K hK => ?_)   -- E call
        go_simp
        refine ⟨rfl, (callsIn_wide.2 (CRR.out 1 w9.drew HLD.out.be (rs_grow HT7.out ((Below.refl _ _).drew)))).mono ?_⟩
        rintro e w10 ⟨v1, M1, rfl, ho1, hm1, hb1⟩
        have HL1 := Lib.hid (HLD.out.below hb1)
        have HM1 := Lib.hid hm1
        have HO1 := Lib.hid (owns_mono ho1 (HQQ1))
        have hC1 : (fun W => W.cell? ⟨w.heap.size, 0, none⟩ = some (.int .i64 m) ∧ W.cell? ⟨w.heap.size, 1, none⟩ = some (.slice ha hs.length hcap) ∧ W.cell? ⟨w.heap.size, 2, none⟩ = some (.slice sa ss.length scap)) w10 := ⟨HL1.out.f0, HL1.out.f1, HL1.out.f2⟩
        have HB1 := Lib.hid hb1
        have HQQ2 : q + 1 ≤ w10.heap.size := Nat.le_trans HQQ1 hb1.size
        clear ho1 hm1 hb1
        refine hK _ _ hC1 ?_
        simp only [Act.put, List.setIfInBounds_toArray, List.set_cons_succ, List.set_cons_zero]
        refine Lim.stepE 7 (fun _ => trivial) rfl (by kernel_rfl) rfl (fun K hK => ?_)   -- E call
        go_simp
        refine ⟨rfl, (callsIn_wide.2 (CRR.out 2 w10 HL1.out.be (rs_grow HT7.out ((Below.refl w9.heap.size w9).drew.trans (HB1.out.mono (Nat.le_refl _)))))).mono ?_⟩
        rintro e w11 ⟨v2, M2, rfl, ho2, hm2, hb2⟩
        have HL2 := Lib.hid (HL1.out.below hb2)
        have HM2 := Lib.hid hm2
        have HO2 := Lib.hid (owns_mono ho2 (HQQ2))
        have hC2 : (fun W => W.cell? ⟨w.heap.size, 0, none⟩ = some (.int .i64 m) ∧ W.cell? ⟨w.heap.size, 1, none⟩ = some (.slice ha hs.length hcap) ∧ W.cell? ⟨w.heap.size, 2, none⟩ = some (.slice sa ss.length scap)) w11 := ⟨HL2.out.f0, HL2.out.f1, HL2.out.f2⟩
        have HB2 := Lib.hid hb2
        skip
        clear ho2 hm2 hb2
        refine hK _ _ hC2 ?_
        simp only [Act.put, List.setIfInBounds_toArray, List.set_cons_succ, List.set_cons_zero]
        refine Lim.stepR 8 (fun _ => trivial) rfl (by kernel_rfl) (fun _ _ _ _ h => h) hC2 rfl ?_; apply Exists.intro; refine ⟨?_, ?_⟩
        · rintro w ⟨r1, r2, r3⟩; go_simp; try with_reducible rfl
        simp only [Act.put, List.setIfInBounds_toArray, List.set_cons_succ, List.set_cons_zero]
        refine Lim.stepR 9 (fun _ => trivial) rfl (by kernel_rfl) (fun _ _ _ _ h => h) hC2 rfl ?_; apply Exists.intro; refine ⟨?_, ?_⟩
        · rintro w ⟨r1, r2, r3⟩; go_simp; try with_reducible rfl
        simp only [Act.put, List.setIfInBounds_toArray, List.set_cons_succ, List.set_cons_zero]
        refine Lim.stepD (by kernel_rfl) ?_
        have HO1b := Lib.hid (owns_below HO1.out HB2.out)
        have HW11 := Lib.hid (owns_below HW9.out (((Below.refl w9.heap.size w9).drew.trans (HB1.out.mono (Nat.le_refl _))).trans (HB2.out.mono HB1.out.size)))
        have HSD2 : Hid (∀ c, c < ss.length → (Sd ⟨m, hs, ss⟩ (decT ⟨m, hs, ss⟩ k) c ↔ M1 c = true ∧ M2 c = true ∧ decT ⟨m, hs, ss⟩ k c = h)) := Lib.hid (fun c hc => by
          rw [HM1.out c hc, HM2.out c hc]
          constructor
          · rintro ⟨h', hs', h1, h2, h3⟩
            obtain rfl := hs'.unique HSD.out
            exact ⟨h1, h2, h3⟩
          · rintro ⟨h1, h2, h3⟩
            exact ⟨h, HSD.out, h1, h2, h3⟩)
        obtain ⟨aa, acap, rfl, -⟩ := RS.of_owns HO1b.out
        obtain ⟨ba, bcap, rfl, -⟩ := RS.of_owns HO2.out
        clear hC hC1 hC2 HO1 HB1 HB2 HL1 HLD HL9 CRR HT7 HW9 HM1 HM2 HSD TE HQQ1 HQQ2 HQ6
        go_wp2_with fail
        go_loopw [12] (fun i W => ∃ (d : Nat) (o : Nat → Bool), d ≤ hs.length ∧ i = .int .i64 d ∧ SaM w m (.slice ha hs.length hcap) (.slice sa ss.length scap) q ss.length o W ∧ Hid (SadSaid ⟨m, hs, ss⟩ k d o) ∧ Hid (W.ownsRow (q + 1) 4 1 (.slice aa ss.length acap) ss.length (bl ss.length M1) ∧ W.ownsRow (q + 1) 4 1 (.slice ba ss.length bcap) ss.length (bl ss.length M2) ∧ W.ownsRow (q + 1) 3 1 (.slice ta hs.length tcap) hs.length (ints ((List.range hs.length).map (decT ⟨m, hs, ss⟩ k))))) (fun i _ => hs.length - (intOf i).toNat)
        case atStart => exact ⟨0, o, Nat.zero_le _, rfl, HL2.out, hO, Lib.hid ⟨HO1b.out, HO2.out, HW11.out⟩⟩
        case round =>
          clear HL2 HO1b HO2 HW11
          obtain ⟨d, o', hd, rfl, L, hT, hV⟩ := hrel
          have HLL := Lib.hid L
          clear L
          by_cases hlt : d < hs.length
          · have hds : d < ss.length := by have := HL.out; omega
            obtain ⟨a1, ac1, e1, g1⟩ := RS.of_owns hV.out.1
            obtain ⟨a2, ac2, e2, g2⟩ := RS.of_owns hV.out.2.1
            obtain ⟨a3, ac3, e3, g3⟩ := RS.of_owns hV.out.2.2
            obtain ⟨ab, aoff, h1, -, hc1⟩ := g1 (fun e => by have := bl_length ss.length M1; rw [e] at this; simp at this; omega)
            obtain ⟨bb, boff, h2, -, hc2⟩ := g2 (fun e => by have := bl_length ss.length M2; rw [e] at this; simp at this; omega)
            obtain ⟨tb, toff, h3, -, hc3⟩ := g3 (ints_ne (by simp; omega))
            have e1' : aa = some ⟨ab, aoff, none⟩ := by rw [← h1]; injection e1
            have e2' : ba = some ⟨bb, boff, none⟩ := by rw [← h2]; injection e2
            have e3' : ta = some ⟨tb, toff, none⟩ := by rw [← h3]; injection e3
            have HEE := Lib.hid (And.intro e1' (And.intro e2' e3'))
            obtain ⟨x1, hx1⟩ : ∃ x1, x1 = M1 d := ⟨_, rfl⟩
            obtain ⟨x2, hx2⟩ : ∃ x2, x2 = M2 d := ⟨_, rfl⟩
            obtain ⟨x0, hx0⟩ : ∃ x0, x0 = o' d := ⟨_, rfl⟩
            obtain ⟨tt, htt⟩ : ∃ tt, tt = decT ⟨m, hs, ss⟩ k d := ⟨_, rfl⟩
            obtain ⟨ee, hee⟩ : ∃ ee, ee = (tt == h) := ⟨_, rfl⟩
            have q1 := hc1 d (.bool x1) (by rw [bl_at _ hds, hx1])
            have q2 := hc2 d (.bool x2) (by rw [bl_at _ hds, hx2])
            have q3 := hc3 d (.int .i64 tt) (by rw [ints_at _ d (by simpa using hlt)]; simp [htt])
            have q0 := HLL.out.at hds
            rw [← hx0] at q0
            have fr := HLL.out.own.frozenAt d
            have HSE : ∀ b : Bool, (b = true ↔ x0 = true ∨ (x1 = true ∧ x2 = true ∧ ee = true)) → SadSaid ⟨m, hs, ss⟩ k (d + 1) (fun x => if x = d then b else o' x) := fun b hb => SadSaid.set hT.out hds (by
              rw [hb, HSD2.out d hds, hx0, hx1, hx2, hee, htt, beq_iff_eq])
            have HSEE := Lib.hid HSE
            have HST := Lib.hid (fun b : Bool => HLL.out.store hds b)
            have hV3 := Lib.hid (fun b : Bool => And.intro (owns_setCell hV.out.1 (p := q) (j := d) (.bool b) (Nat.lt_succ_self _)) (And.intro (owns_setCell hV.out.2.1 (p := q) (j := d) (.bool b) (Nat.lt_succ_self _)) (owns_setCell hV.out.2.2 (p := q) (j := d) (.bool b) (Nat.lt_succ_self _))))
            have hee' : (tt == h) = ee := hee.symm
            clear hx0 hx1 hx2 htt hee HSE hc1 hc2 hc3 g1 g2 g3 h1 h2 h3 e1 e2 e3 hV hT HLL
            rw [e1', e2', e3']
            clear e1' e2' e3'
            cases x0 <;> cases x1 <;> cases x2 <;> cases ee <;>
              (go_wp2
               go_roundw
               case rel => exact ⟨d + 1, _, by omega, by go_num, HST.out _, Lib.hid (HSEE.out _ (by decide)), by rw [HEE.out.1, HEE.out.2.1, HEE.out.2.2] at hV3; exact Lib.hid (hV3.out _)⟩
               case measure => simp [intOf]; omega)
          · obtain rfl : d = hs.length := by omega
            have HSD : Hid (SadSaid ⟨m, hs, ss⟩ (k + 1) 0 o') := Lib.hid (by have h := hT.out; rw [HL.out] at h; exact SadSaid.done h)
            have hkb : (k : Int) < 1000000 := by omega
            clear hT hV HSD2
            go_wp2
            go_roundw
            case rel => exact ⟨k + 1, o', by omega, by go_num, HLL.out, HSD⟩
            case measure => simp [intOf]; omega
      · obtain rfl : k = N := by omega
        have HQ6 : q + 1 ≤ w6.heap.size := World.block_lt_of_cell? _ _ (HL6.out.at (k := 0) (by omega))
        have HQ7 := Lib.hid HQ6
        clear HQ6 f0 f1 f2
        go_wp2_with fail
        go_loopw [13, 14] (fun v i W => ∃ d : Nat, d ≤ ss.length ∧ i = .int .i64 d ∧ Hid (W.ownsRow (q + 1) 3 1 v (sadNames o d).length (ints ((sadNames o d).map Int.ofNat))) ∧ Hid (Below (q + 1) w6 W)) (fun _ i _ => ss.length - (intOf i).toNat)
        case atStart => exact ⟨0, Nat.zero_le _, rfl, Lib.hid (World.ownsRow_nil _ _ _ _), Lib.hid (Below.refl _ _)⟩
        case round =>
          obtain ⟨d, hd, rfl, HOW, hbr⟩ := hrel
          by_cases hlt : d < ss.length
          · have q0 := (hbr.out.cell (p := ⟨q, d, none⟩) (Nat.lt_succ_self _)).trans (HL6.out.at hlt)
            have HSZ : Hid (q + 1 ≤ wr.heap.size) := Lib.hid (Nat.le_trans HQ7.out hbr.out.size)
            have hln := sadNames_len o d
            have HLN := Lib.hid hln
            have HSU := Lib.hid (sadNames_succ o d)
            cases hod : o d with
            | true =>
              rw [hod] at q0 HSU
              have HE : Hid (ints ((sadNames o (d + 1)).map Int.ofNat) = ints ((sadNames o d).map Int.ofNat) ++ [.int .i64 d] ∧ (sadNames o (d + 1)).length = (sadNames o d).length + 1) := Lib.hid (by
                rw [HSU.out, if_pos rfl]
                unfold ints
                rw [List.map_append, List.map_append]
                exact ⟨rfl, by simp⟩)
              obtain ⟨l0, hl0⟩ : ∃ l0, l0 = (sadNames o d).length := ⟨_, rfl⟩
              have hl100 : l0 ≤ 100 := by omega
              obtain ⟨va, vc, rfl, -⟩ := RS.of_owns HOW.out
              rw [← hl0] at HOW HE ⊢
              clear hod hln hl0
              go_wp2_with (at_builtin; refine wpList_append_own _ rfl _ _ 23 rfl (q + 1) 3 j0 (.int .i64 0) 1 8 Try.underlying23 HJ.out.1 HJ.out.2.1 HJ.out.2.2.1 HJ.out.2.2.2 rfl (by decide) _ _ _ rfl (HOW.out.alloc _) ⟨wr.heap.size, 0, none⟩ 1 1 [.int .i64 d] rfl rfl (cell_one_new _ _ _) (by simp [Value.oneCell']) (by unfold maxLen; omega) (by omega) (by have := HSZ.out; simp; omega) ?_; intro v' w13 hown3 hgrow _)
              have HB13 : Hid (Below (q + 1) w6 w13) := Lib.hid ((hbr.out.alloc HSZ.out _).grown hgrow (by have := HSZ.out; simp; omega) (fun j e => (HOW.out.lt j e).1))
              have HOW3 : Hid (w13.ownsRow (q + 1) 3 1 v' (sadNames o (d + 1)).length (ints ((sadNames o (d + 1)).map Int.ofNat))) := Lib.hid (by rw [HE.out.1, HE.out.2]; exact hown3)
              clear hown3 hgrow q0 HOW hbr
              go_wp2
              go_roundw
              case rel => exact ⟨d + 1, by omega, by go_num, HOW3, HB13⟩
              case measure => simp [intOf]; omega
            | false =>
              rw [hod] at q0 HSU
              have h9 := HOW.out
              rw [show sadNames o d = sadNames o (d + 1) from (HSU.out.trans (if_neg (by decide))).symm] at h9
              have HOW3 := Lib.hid h9
              clear h9
              clear hod hln
              go_wp2
              go_roundw
              case rel => exact ⟨d + 1, by omega, by go_num, HOW3, hbr⟩
              case measure => simp [intOf]; omega
          · obtain rfl : d = ss.length := by omega
            have hwq : w.heap.size ≤ q + 1 := by have := HL6.out.lt; omega
            have HFB := Lib.hid (HL6.out.be.trans (hbr.out.mono hwq))
            have HFO := Lib.hid (owns_mono HOW.out hwq)
            have HFN : Hid (RSadAns m hs ss er (sadNames o ss.length)) := Lib.hid ⟨x, y, HSA.out, fun h => absurd HER.out h, fun _ => ⟨o, rfl, by rw [HN.out]; exact hO.out⟩⟩
            rw [HER.out] at HFN ⊢
            clear hwq hbr HOW
            go_wp2
            go_ret2
            exact ⟨_, 0, _, rfl, HFO.out, HFN.out, HFB.out⟩
  · have he1 : (er != 0) = true := by rw [bne, show (er == 0) = false from by rw [beq_eq_false_iff_ne]; exact her]; rfl
    have HER := Lib.hid her
    clear her f2
    go_wp2
    go_ret2
    exact ⟨_, er, [], rfl, World.ownsRow_nil _ _ _ _, ⟨x, y, HSA.out, fun _ => rfl, fun h => absurd h HER.out⟩, HF1.out.1⟩
end Go.Proofs.Ytdgibmgifgdpbaa
/-
  Sides and saddles as the reference answers them, for every ground; and that every truth has a number.
-/
namespace Go.Proofs.Ytdgibmgifgdpbaa
open Go.RowKit Go.Shelf
open Lim

/-- what the reference's Sides answers -/
def RSideAns (wd : Int) (hs : List (Int × Int)) (ss : List Int) (er : Int) (n : Nat) (o : Nat → Bool) : Prop :=
  (openErr wd hs ss ≠ 0 ∧ er = openErr wd hs ss ∧ n = 0) ∨ (openErr wd hs ss = 0 ∧ er = 0 ∧ n = ss.length ∧ Said ⟨wd.toNat, hs, ss⟩ (trsTo ⟨wd.toNat, hs, ss⟩ ss.length).toNat o)
theorem open_nat {wd : Int} {hs : List (Int × Int)} {ss : List Int} (he : openErr wd hs ss = 0) : ∃ m : Nat, wd = m := by
  have h1 := (openErr_zero he).1
  simp only [goodCount, Bool.and_eq_true, decide_eq_true_eq] at h1
  exact ⟨wd.toNat, by omega⟩
set_option maxRecDepth 20000 in
set_option maxHeartbeats 1000000 in
theorem rsides_all {B : Nat} {wd : Int} {hv sv : Value} {hs : List (Int × Int)} {ss : List Int} {w : World} (hB : B ≤ w.heap.size) (hh : RS B w hv hs.length (spans hs)) (hss : RS B w sv ss.length (ints ss)) :
    Calls Try.prog 20 #[.agg #[.int .i64 wd, hv, sv]] w fun e w' => ∃ v er n o, e = .returned (.tuple #[v, .int .i64 er]) ∧ w'.ownsRow w.heap.size 42 3 v n (bl (n * 3) o) ∧ RSideAns wd hs ss er n o ∧ Below w.heap.size w w' := by
  by_cases he : openErr wd hs ss = 0
  · obtain ⟨m, rfl⟩ := open_nat he
    refine (rsides_any hB hh hss he).mono ?_
    rintro e w' ⟨v, o, h1, h2, h3, h4⟩
    exact ⟨v, 0, ss.length, o, h1, h2, .inr ⟨he, rfl, rfl, h3⟩, h4⟩
  · have B1 : Below w.heap.size w (w.alloc (.cells #[.int .i64 wd, hv, sv] 28)) := (Below.refl _ w).alloc (Nat.le_refl _) _
    have CO := Lib.hid (rcheck_any (B := B) (wd := wd) (w := w.alloc (.cells #[.int .i64 wd, hv, sv] 28)) (by have := B1.size; omega) (hh.below (B1.mono hB)) (hss.below (B1.mono hB)))
    obtain ⟨ha, hcap, rfl, -⟩ := hh
    obtain ⟨sa, scap, rfl, -⟩ := hss
    have HE := Lib.hid he
    have HB1 := Lib.hid B1
    clear he B1
    go_enter Try.func20, Try.ntmps20
    go_wp2_with fail
    refine CO.out.mono ?_
    clear CO
    rintro e w1 ⟨rfl, hb⟩
    have he1 : (openErr wd hs ss != 0) = true := by rw [bne, show (openErr wd hs ss == 0) = false from by rw [beq_eq_false_iff_ne]; exact HE.out]; rfl
    have HB2 := Lib.hid (HB1.out.trans (hb.mono HB1.out.size))
    clear hb
    go_wp2
    go_ret2
    exact ⟨_, _, 0, fun _ => false, rfl, World.ownsRow_nil _ _ _ _, .inl ⟨HE.out, rfl, rfl⟩, HB2.out⟩
/-- what the reference's Saddles answers -/
def RSadl (wd : Int) (hs : List (Int × Int)) (ss : List Int) (er : Int) (L : List Nat) : Prop :=
  ∃ x y, SadAns wd hs ss x y er ∧ (er ≠ 0 → L = []) ∧ (er = 0 → ∃ o, L = sadNames o ss.length ∧ SadSaid ⟨wd.toNat, hs, ss⟩ (trsTo ⟨wd.toNat, hs, ss⟩ ss.length).toNat 0 o)
set_option maxRecDepth 20000 in
set_option maxHeartbeats 1000000 in
theorem rsaddles_all {B : Nat} {wd : Int} {hv sv : Value} {hs : List (Int × Int)} {ss : List Int} {w : World} (hB : B ≤ w.heap.size) (hh : RS B w hv hs.length (spans hs)) (hss : RS B w sv ss.length (ints ss)) :
    Calls Try.prog 24 #[.agg #[.int .i64 wd, hv, sv]] w fun e w' => ∃ v er L, e = .returned (.tuple #[v, .int .i64 er]) ∧ w'.ownsRow w.heap.size 3 1 v L.length (ints (L.map Int.ofNat)) ∧ RSadl wd hs ss er L ∧ Below w.heap.size w w' := by
  by_cases he : openErr wd hs ss = 0
  · obtain ⟨m, rfl⟩ := open_nat he
    exact rsaddles_any hB hh hss he
  · have B1 : Below w.heap.size w (w.alloc (.cells #[.int .i64 wd, hv, sv] 28)) := (Below.refl _ w).alloc (Nat.le_refl _) _
    have CO := Lib.hid (rsaddle_any (B := B) (wd := wd) (w := w.alloc (.cells #[.int .i64 wd, hv, sv] 28)) (by have := B1.size; omega) (hh.below (B1.mono hB)) (hss.below (B1.mono hB)))
    obtain ⟨ha, hcap, rfl, -⟩ := hh
    obtain ⟨sa, scap, rfl, -⟩ := hss
    have HE := Lib.hid he
    have HB1 := Lib.hid B1
    clear he B1
    go_enter Try.func24, Try.ntmps24
    go_wp2_with fail
    refine CO.out.mono ?_
    clear CO
    rintro e w1 ⟨x, y, er, rfl, hsa, hb⟩
    have her : er ≠ 0 := by
      rcases hsa with ⟨h1, -, -, h2⟩ | ⟨h1, -⟩
      · rw [h2]; exact h1
      · exact absurd h1 HE.out
    have he1 : (er != 0) = true := by rw [bne, show (er == 0) = false from by rw [beq_eq_false_iff_ne]; exact her]; rfl
    have HER := Lib.hid (And.intro her hsa)
    have hb2 : Below w1.heap.size w1 (w1.alloc (.cells #[.int .i64 x, .int .i64 y] 54)) := (Below.refl _ _).alloc (Nat.le_refl _) _
    have HB2 := Lib.hid (HB1.out.trans ((hb.trans (hb2.mono hb.size)).mono HB1.out.size))
    clear hb hb2 her hsa
    go_wp2
    go_ret2
    exact ⟨_, er, [], rfl, World.ownsRow_nil _ _ _ _, ⟨x, y, HER.out.2, fun _ => rfl, fun h => absurd h HER.out.1⟩, HB2.out⟩

/-- the number of a truth, as far as the last d of n cells go -/
def encN (g : Gd) (t : Nat → Int) (n : Nat) : Nat → Nat
  | 0 => 0
  | d + 1 => if g.ss.getD (n - (d + 1)) 0 = 0 then (t (n - (d + 1)) - lowT g (n - (d + 1))).toNat + wideN g (n - (d + 1)) * encN g t n d else encN g t n d
def sufN (g : Gd) (n : Nat) : Nat → Nat
  | 0 => 1
  | d + 1 => if g.ss.getD (n - (d + 1)) 0 = 0 then wideN g (n - (d + 1)) * sufN g n d else sufN g n d
def preN (g : Gd) : Nat → Nat
  | 0 => 1
  | k + 1 => if g.ss.getD k 0 = 0 then preN g k * wideN g k else preN g k
theorem wide_pos {g : Gd} (hs : SpansOk g) {c : Nat} (hc : c < g.n) : 0 < wideN g c ∧ (wideN g c : Int) = highT g c - lowT g c + 1 := by
  have := hs c hc
  unfold wideN
  omega
theorem encN_lt {g : Gd} (hs : SpansOk g) {t : Nat → Int} (ht : Tr g t) : ∀ d, d ≤ g.n → encN g t g.n d < sufN g g.n d
  | 0, _ => by unfold encN sufN; omega
  | d + 1, h => by
    have ih := encN_lt hs ht d (by omega)
    have hk : g.n - (d + 1) < g.n := by omega
    unfold encN sufN
    split
    · rename_i hl
      have h1 := ht _ ⟨hk, hl⟩
      have h2 := wide_pos hs hk
      generalize g.n - (d + 1) = k at *
      have h3 : (t k - lowT g k).toNat < wideN g k := by omega
      have h4 : wideN g k * (encN g t g.n d + 1) ≤ wideN g k * sufN g g.n d := Nat.mul_le_mul_left _ ih
      rw [Nat.mul_add, Nat.mul_one] at h4
      omega
    · exact ih
theorem preN_succ (g : Gd) (k : Nat) : preN g (k + 1) = if g.ss.getD k 0 = 0 then preN g k * wideN g k else preN g k := rfl
theorem pre_suf (g : Gd) (n : Nat) : ∀ d, d ≤ n → preN g (n - d) * sufN g n d = preN g n
  | 0, _ => by simp [sufN]
  | d + 1, h => by
    have ih := pre_suf g n d (by omega)
    have e : n - d = (n - (d + 1)) + 1 := by omega
    rw [e, preN_succ] at ih
    unfold sufN
    split at ih
    · rename_i hl
      rw [if_pos hl, ← Nat.mul_assoc]
      exact ih
    · rename_i hl
      rw [if_neg hl]
      exact ih
theorem restN_enc {g : Gd} (hs : SpansOk g) {t : Nat → Int} (ht : Tr g t) : ∀ k, k ≤ g.n → restN g (encN g t g.n g.n) k = encN g t g.n (g.n - k)
  | 0, _ => by simp [restN]
  | k + 1, h => by
    have ih := restN_enc hs ht k (by omega)
    have hk : k < g.n := by omega
    have e : g.n - k = (g.n - (k + 1)) + 1 := by omega
    have e2 : g.n - (g.n - (k + 1) + 1) = k := by omega
    unfold restN
    rw [ih, e]
    rw [show encN g t g.n (g.n - (k + 1) + 1) = if g.ss.getD (g.n - (g.n - (k + 1) + 1)) 0 = 0 then (t (g.n - (g.n - (k + 1) + 1)) - lowT g (g.n - (g.n - (k + 1) + 1))).toNat + wideN g (g.n - (g.n - (k + 1) + 1)) * encN g t g.n (g.n - (k + 1)) else encN g t g.n (g.n - (k + 1)) from rfl, e2]
    split
    · rename_i hl
      have h1 := ht _ ⟨hk, hl⟩
      have h2 := wide_pos hs hk
      rw [Nat.add_mul_div_left _ _ h2.1, Nat.div_eq_of_lt (by omega), Nat.zero_add]
    · rfl
/-- the truth of its number -/
theorem dec_enc {g : Gd} (hs : SpansOk g) {t : Nat → Int} (ht : Tr g t) {c : Nat} (hl : land g c) : decT g (encN g t g.n g.n) c = t c := by
  have hk := hl.1
  have e : g.n - c = (g.n - (c + 1)) + 1 := by omega
  have e2 : g.n - (g.n - (c + 1) + 1) = c := by omega
  have h1 := ht c hl
  have h2 := wide_pos hs hk
  unfold decT
  rw [if_pos hl.2, restN_enc hs ht c (by omega), e]
  rw [show encN g t g.n (g.n - (c + 1) + 1) = if g.ss.getD (g.n - (g.n - (c + 1) + 1)) 0 = 0 then (t (g.n - (g.n - (c + 1) + 1)) - lowT g (g.n - (g.n - (c + 1) + 1))).toNat + wideN g (g.n - (g.n - (c + 1) + 1)) * encN g t g.n (g.n - (c + 1)) else encN g t g.n (g.n - (c + 1)) from rfl, e2, if_pos hl.2]
  rw [Nat.add_mul_mod_self_left, Nat.mod_eq_of_lt (by omega)]
  omega
theorem dec_tr {g : Gd} (hs : SpansOk g) (n : Nat) : Tr g (decT g n) := fun c hl => by
  have h2 := wide_pos hs hl.1
  have h3 := Nat.mod_lt (restN g n c) h2.1
  unfold decT
  rw [if_pos hl.2]
  omega
/-- few truths are all counted -/
theorem trs_pre {g : Gd} (hs : SpansOk g) (hN : trsTo g g.n < 1000000) : ∀ d, d ≤ g.n → trsTo g (g.n - d) < 1000000
  | 0, _ => hN
  | d + 1, h => by
    have ih := trs_pre hs hN d (by omega)
    have e : g.n - d = (g.n - (d + 1)) + 1 := by omega
    have hk : g.n - (d + 1) < g.n := by omega
    rw [e] at ih
    unfold trsTo at ih
    split at ih
    · have h1 := trsTo_range hs (g.n - (d + 1)) (by omega)
      have h2 := hs _ hk
      generalize g.n - (d + 1) = k at *
      have h3 : trsTo g k * 1 ≤ trsTo g k * (highT g k - lowT g k + 1) := Int.mul_le_mul_of_nonneg_left (by omega) (by omega)
      omega
    · exact ih
theorem trs_eq {g : Gd} (hs : SpansOk g) (hN : trsTo g g.n < 1000000) : ∀ k, k ≤ g.n → trsTo g k = (preN g k : Int)
  | 0, _ => rfl
  | k + 1, h => by
    have ih := trs_eq hs hN k (by omega)
    have h1 := trs_pre hs hN (g.n - (k + 1)) (by omega)
    rw [show g.n - (g.n - (k + 1)) = k + 1 from by omega] at h1
    have h2 := wide_pos hs (show k < g.n by omega)
    unfold trsTo at h1 ⊢
    unfold preN
    split
    · rename_i hl
      rw [if_pos hl] at h1
      rw [ih, ← h2.2] at h1 ⊢
      rw [Int.natCast_mul]
      omega
    · exact ih
theorem number {g : Gd} (hs : SpansOk g) (hN : trsTo g g.n < 1000000) {t : Nat → Int} (ht : Tr g t) : ∃ n, n < (trsTo g g.n).toNat ∧ ∀ c, land g c → decT g n c = t c := by
  refine ⟨encN g t g.n g.n, ?_, fun c hl => dec_enc hs ht hl⟩
  have h1 := encN_lt hs ht g.n (Nat.le_refl _)
  have h2 := pre_suf g g.n g.n (Nat.le_refl _)
  rw [Nat.sub_self, show preN g 0 = 1 from rfl, Nat.one_mul] at h2
  rw [trs_eq hs hN g.n (Nat.le_refl _), Int.toNat_natCast]
  omega
end Go.Proofs.Ytdgibmgifgdpbaa
/-
  Sides and saddles: what is returned and what the reference says agree, in plain words.
-/
namespace Go.Proofs.Ytdgibmgifgdpbaa
open Go.RowKit Go.Shelf
open Lim

theorem Dr.ext {g : Gd} {t t' : Nat → Int} {c : Nat} {k : Int} (e : ∀ c, land g c → t c = t' c) (h : Dr g t c k) : Dr g t' c k := let ⟨p, q, hp, hq, hk⟩ := h; ⟨p, q, hp.ext e, hq.ext e, hk⟩
theorem Sd.ext {g : Gd} {t t' : Nat → Int} {c : Nat} (hl : land g c) (e : ∀ c, land g c → t c = t' c) (h : Sd g t c) : Sd g t' c := let ⟨x, h1, h2, h3, h4⟩ := h; ⟨x, h1.ext e, R.ext e h2, R.ext e h3, by rw [← e c hl]; exact h4⟩
theorem tri_agree {g : Gd} (hg : g.Ok) (hs : SpansOk g) (hss : ∀ c, c < g.n → 0 ≤ g.ss.getD c 0 ∧ g.ss.getD c 0 ≤ 2) (hN : trsTo g g.n < 1000000) {l : List (Bool × Bool × Bool)} {o : Nat → Bool} (h : SidesG g l) (k : Said g (trsTo g g.n).toNat o) :
    ∀ c, c < g.n → l.getD c (false, false, false) = (o (c * 3), o (c * 3 + 1), o (c * 3 + 2)) := by
  have hl := sides_say hg hs hss h
  have key : ∀ c k, (∃ t, Tr g t ∧ Dr g t c k) ↔ ∃ n, n < (trsTo g g.n).toNat ∧ Dr g (decT g n) c k := fun c k => by
    constructor
    · rintro ⟨t, ht, hd⟩
      obtain ⟨n, hn, e⟩ := number hs hN ht
      exact ⟨n, hn, hd.ext (fun c hl => (e c hl).symm)⟩
    · rintro ⟨n, -, hd⟩
      exact ⟨_, dec_tr hs n, hd⟩
  intro c hc
  obtain ⟨h1, h2, h3⟩ := hl.2 c hc
  have k1 := k c hc 0 (by omega)
  have k2 := k c hc 1 (by omega)
  have k3 := k c hc 2 (by omega)
  rw [key] at h1 h2 h3
  refine Prod.ext ?_ (Prod.ext ?_ ?_)
  · exact Bool.eq_iff_iff.2 (h1.trans k1.symm)
  · exact Bool.eq_iff_iff.2 (h2.trans k2.symm)
  · exact Bool.eq_iff_iff.2 (h3.trans k3.symm)
theorem sad_agree {g : Gd} (hg : g.Ok) (hs : SpansOk g) (hN : trsTo g g.n < 1000000) {a b : Nat → Int} {y : Int} {o : Nat → Bool} (ha : IsPass g (lowT g) 1 a) (hb : IsPass g (lowT g) 2 b) (hy : IsSaddle g (highT g) y) (k : SadSaid g (trsTo g g.n).toNat 0 o) : sadList g a b y = sadNames o g.n := by
  have key : ∀ c, c < g.n → (c ∈ sadList g a b y ↔ o c = true) := fun c hc => by
    rw [saddles_say hg hs ha hb hy, k c hc]
    constructor
    · rintro ⟨hl, t, h, ht, h1, h2, h3, h4⟩
      obtain ⟨n, hn, e⟩ := number hs hN ht
      exact .inl ⟨n, hn, Sd.ext hl (fun c hl => (e c hl).symm) ⟨h, h1, h2, h3, h4⟩⟩
    · rintro (⟨n, -, x, h1, h2, h3, h4⟩ | ⟨h0, -⟩)
      · exact ⟨(Re.in_A h2).1, _, x, dec_tr hs n, h1, h2, h3, h4⟩
      · omega
  unfold sadList sadNames at *
  apply List.filter_congr
  intro c hc
  have hc' := List.mem_range.1 hc
  have := key c hc'
  rw [List.mem_filter] at this
  exact Bool.eq_iff_iff.2 ⟨fun h => this.1 ⟨hc, h⟩, fun h => (this.2 h).2⟩
/-- the tests that stand ahead -/
def Fit (wd : Int) (hs : List (Int × Int)) (ss : List Int) : Prop := openErr wd hs ss = 0 → trsTo ⟨wd.toNat, hs, ss⟩ ss.length < 1000000
theorem spans_ok {wd : Int} {hs : List (Int × Int)} {ss : List Int} (he : openErr wd hs ss = 0) : SpansOk ⟨wd.toNat, hs, ss⟩ := fun _ hc => ends_range2 he hc
theorem seas_ok {wd : Int} {hs : List (Int × Int)} {ss : List Int} (he : openErr wd hs ss = 0) : ∀ c, c < (⟨wd.toNat, hs, ss⟩ : Gd).n → 0 ≤ ss.getD c 0 ∧ ss.getD c 0 ≤ 2 := fun c hc => sea_range (openErr_zero he).2.1 c hc
theorem sides_agree {wd : Int} {hs : List (Int × Int)} {ss : List Int} {er er' : Int} {n : Nat} {l : List (Bool × Bool × Bool)} {o : Nat → Bool} (hf : Fit wd hs ss) (h : SidesAns wd hs ss er l) (k : RSideAns wd hs ss er' n o) :
    er = er' ∧ l.length = n ∧ n ≤ 100 ∧ ∀ c, c < n → l.getD c (false, false, false) = (o (c * 3), o (c * 3 + 1), o (c * 3 + 2)) := by
  rcases h with ⟨h0, rfl, rfl⟩ | ⟨h0, rfl, h1⟩
  · rcases k with ⟨k0, rfl, rfl⟩ | ⟨k0, _⟩
    · exact ⟨rfl, rfl, by omega, fun c hc => by omega⟩
    · exact absurd k0 h0
  · rcases k with ⟨k0, _⟩ | ⟨k0, rfl, rfl, k1⟩
    · exact absurd h0 k0
    · exact ⟨rfl, h1.len, (openErr_ok h0).n1, tri_agree (g := ⟨wd.toNat, hs, ss⟩) (openErr_ok h0) (spans_ok h0) (seas_ok h0) (hf h0) h1 k1⟩
theorem doubt_agree {wd : Int} {hs : List (Int × Int)} {ss : List Int} {er er' : Int} {n : Nat} {L : List Nat} {o : Nat → Bool} (hf : Fit wd hs ss) (h : DoubtAns wd hs ss er L) (k : RSideAns wd hs ss er' n o) :
    er = er' ∧ L = (List.range n).filter fun c => doubtB (o (c * 3), o (c * 3 + 1), o (c * 3 + 2)) := by
  rcases h with ⟨h0, rfl, rfl⟩ | ⟨h0, rfl, l, h1, rfl⟩
  · rcases k with ⟨k0, rfl, rfl⟩ | ⟨k0, _⟩
    · exact ⟨rfl, rfl⟩
    · exact absurd k0 h0
  · rcases k with ⟨k0, _⟩ | ⟨k0, rfl, rfl, k1⟩
    · exact absurd h0 k0
    · refine ⟨rfl, ?_⟩
      unfold doubtTo
      have hn : l.length = ss.length := h1.len
      rw [hn]
      apply List.filter_congr
      intro c hc
      rw [tri_agree (g := ⟨wd.toNat, hs, ss⟩) (openErr_ok h0) (spans_ok h0) (seas_ok h0) (hf h0) h1 k1 c (List.mem_range.1 hc)]
theorem saddles_agree {wd : Int} {hs : List (Int × Int)} {ss : List Int} {x y er er' : Int} {L L' : List Nat} (hf : Fit wd hs ss) (h1 : SadAns wd hs ss x y er) (h2 : er ≠ 0 → L = [])
    (h3 : er = 0 → ∃ a b, IsPass ⟨wd.toNat, hs, ss⟩ (lowT ⟨wd.toNat, hs, ss⟩) 1 a ∧ IsPass ⟨wd.toNat, hs, ss⟩ (lowT ⟨wd.toNat, hs, ss⟩) 2 b ∧ L = sadList ⟨wd.toNat, hs, ss⟩ a b y) (k : RSadl wd hs ss er' L') : er = er' ∧ L = L' := by
  obtain ⟨x', y', k1, k2, k3⟩ := k
  obtain ⟨rfl, rfl, rfl⟩ := h1.unique k1
  refine ⟨rfl, ?_⟩
  by_cases he : er = 0
  · subst he
    obtain ⟨a, b, ha, hb, rfl⟩ := h3 rfl
    obtain ⟨o, rfl, ho⟩ := k3 rfl
    rcases h1 with ⟨q0, -, -, q1⟩ | ⟨q0, a', b', ha', hb', ⟨-, -, -, q1⟩ | ⟨-, rfl, rfl, -⟩⟩
    · exact absurd q1.symm q0
    · omega
    · exact sad_agree (g := ⟨wd.toNat, hs, ss⟩) (openErr_ok q0) (spans_ok q0) (hf q0) ha hb hb' ho
  · rw [h2 he, k2 he]
/-- how many of the first three are so -/
def manyB (a b c : Bool) : Nat → Nat
  | 0 => 0
  | 1 => a.toNat
  | 2 => a.toNat + b.toNat
  | _ => a.toNat + b.toNat + c.toNat
theorem many_doubt (a b c : Bool) : decide (1 < manyB a b c 3) = doubtB (a, b, c) := by cases a <;> cases b <;> cases c <;> rfl
end Go.Proofs.Ytdgibmgifgdpbaa
