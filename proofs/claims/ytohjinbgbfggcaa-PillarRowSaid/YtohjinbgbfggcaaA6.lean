/-
  Parts of the proof, in the order in which they build: QiJ, QiS, QiT, QiV.
-/
import Derived.Laws.IdiomCopy
import Derived.Laws.MakeOwn
import Derived.Laws.OwnMore
import Derived.WalkSpells
import Derived.WalkLawsBesides
import Derived.Lib.Hide
import Derived.IntWalk
import Derived.BigQuiet
import Derived.Deep.MidRow
import Derived.Test.YtohjinbgbfggcaaB1
import Derived.Test.YtohjinbgbfggcaaA0
import Derived.Test.YtohjinbgbfggcaaB5
set_option linter.unusedVariables false
set_option linter.unusedSimpArgs false
/-
  slices.Repeat of a list of one number: the contract.
-/
namespace Go.Proofs.Ytohjinbgbfggcaa
open Go.RowKit Go.Shelf
open Lim

theorem setCell_offP (w : World) {p i j : Nat} (v : Value) (h : i ≠ j) : (w.setCell ⟨p, i, none⟩ v).cell? ⟨p, j, none⟩ = w.cell? ⟨p, j, none⟩ := World.cell?_setCell_other w _ _ _ (fun e => h (congrArg Addr.off e))
/-- n cells, of which the first m are x -/
structure RpM (w : World) (g n m : Nat) (x : Int) (W : World) : Prop where
  be : Below w.heap.size w W
  ge : w.heap.size ≤ g
  c : ∀ j, j < n → W.cell? ⟨g, j, none⟩ = some (.int .i64 (if j < m then x else 0))
  f : ∀ j, W.frozen? ⟨g, j, none⟩ = false
  ow : ∃ xs, W.ownsRow w.heap.size 3 1 (.slice (some ⟨g, 0, none⟩) n n) n xs
theorem RpM.drew {w : World} {g n m : Nat} {x : Int} {W : World} (h : RpM w g n m x W) : RpM w g n m x W.drew := ⟨h.be.drew, h.ge, h.c, h.f, h.ow⟩
theorem setCells_at : ∀ (vs : List Value) (w : World) (g o j : Nat), (∀ i, i < vs.length → (w.cell? ⟨g, o + i, none⟩).isSome = true) → (w.setCells g o vs).cell? ⟨g, j, none⟩ = if o ≤ j ∧ j < o + vs.length then vs[j - o]? else w.cell? ⟨g, j, none⟩
  | [], w, g, o, j, _ => by rw [if_neg (by simp)]; rfl
  | v :: vs, w, g, o, j, h => by
    have h0 := h 0 (by simp)
    show ((w.setCell ⟨g, o, none⟩ v).setCells g (o + 1) vs).cell? _ = _
    rw [setCells_at vs (w.setCell ⟨g, o, none⟩ v) g (o + 1) j (fun i hi => by
      rw [setCell_offP _ _ (by omega)]
      have := h (i + 1) (by simpa using hi)
      rw [show o + 1 + i = o + (i + 1) by omega]; exact this)]
    by_cases e : j = o
    · subst e
      rw [if_neg (by omega), if_pos (by simp), World.cell?_setCell_same' _ _ _ (by simpa using h0), Nat.sub_self]; rfl
    · rw [setCell_offP _ _ (by omega)]
      by_cases h1 : o + 1 ≤ j ∧ j < o + 1 + vs.length
      · rw [if_pos h1, if_pos (by simp; omega), show j - o = (j - (o + 1)) + 1 by omega]; rfl
      · rw [if_neg h1, if_neg (by simp; omega)]
theorem setCells_frozen : ∀ (vs : List Value) (w : World) (g o : Nat) (p : Addr), (w.setCells g o vs).frozen? p = w.frozen? p
  | [], _, _, _, _ => rfl
  | v :: vs, w, g, o, p => by
    show ((w.setCell ⟨g, o, none⟩ v).setCells g (o + 1) vs).frozen? p = _
    rw [setCells_frozen vs, World.frozen?_setCell]
theorem below_setCells' {B g : Nat} {w0 : World} (hB : B ≤ g) : ∀ (vs : List Value) (o : Nat) (w : World), Below B w0 w → Below B w0 (w.setCells g o vs)
  | [], _, _, h => h
  | v :: vs, o, w, h => below_setCells' hB vs (o + 1) (w.setCell ⟨g, o, none⟩ v) (h.setCell (p := ⟨g, o, none⟩) hB v)
theorem setCells_owned {base e size g n cap : Nat} : ∀ (vs : List Value) (o : Nat) (w : World) (xs : List Value), w.ownsRow base e size (.slice (some ⟨g, 0, none⟩) n cap) n xs → ∃ ys, (w.setCells g o vs).ownsRow base e size (.slice (some ⟨g, 0, none⟩) n cap) n ys
  | [], _, _, xs, h => ⟨xs, h⟩
  | v :: vs, o, w, xs, h => setCells_owned vs (o + 1) (w.setCell ⟨g, o, none⟩ v) _ (h.stored o v).1
end Go.Proofs.Ytohjinbgbfggcaa
/-
  How many readings there are of the stones up to each one: the contract of ahead (of a roll).
-/
namespace Go.Proofs.Ytohjinbgbfggcaa
open Go.RowKit Go.Shelf
open Lim

/-- the part of a count by the numbers before a -/
def cntP (d : Rd) (k b : Nat) : Nat → Nat
  | 0 => 0
  | a + 1 => cntP d k b a + (if fitsB d.r a b (d.f.getD k (0, 0)) then cnt d k a else 0)
theorem cntP_sum (d : Rd) (k b : Nat) : ∀ a, cntP d k b a = ((List.range a).map fun a => if fitsB d.r a b (d.f.getD k (0, 0)) then cnt d k a else 0).sum
  | 0 => rfl
  | a + 1 => by rw [cntP, cntP_sum d k b a, List.range_succ, List.map_append, List.sum_append]; simp
theorem cnt_succ (d : Rd) (k b : Nat) : cnt d (k + 1) b = if canB d (k + 1) b then cntP d k b b else 0 := by rw [cnt, cntP_sum]
theorem cntP_lt (d : Rd) (k b a : Nat) : cntP d k b a < 2 ^ a := by
  rw [cntP_sum]
  refine sum_range_le _ (fun x => ?_) a
  split
  · exact cnt_le d k x
  · exact Nat.zero_le _
/-- the table, when the first k stones are done, and the first b numbers of the next -/
def tabTo (d : Rd) (k b x y : Nat) : Nat := if (x < k ∧ y ≤ d.r.length) ∨ (x = k ∧ y < b) then cnt d x y else 0
theorem tabTo_row (d : Rd) (k : Nat) : tabTo d k (d.r.length + 1) = tabTo d (k + 1) 0 := by
  funext x y
  unfold tabTo
  by_cases h : (x < k ∧ y ≤ d.r.length) ∨ (x = k ∧ y < d.r.length + 1)
  · rw [if_pos h, if_pos (by omega)]
  · rw [if_neg h, if_neg (by omega)]
/-- a table with one number put in -/
def putT (T : Nat → Nat → Nat) (k b v : Nat) : Nat → Nat → Nat := fun x y => if x = k ∧ y = b then v else T x y
theorem tabTo_put (d : Rd) (k b : Nat) : putT (tabTo d k b) k b (cnt d k b) = tabTo d k (b + 1) := by
  funext x y
  unfold putT
  by_cases e : x = k ∧ y = b
  · rw [if_pos e, tabTo, e.1, e.2, if_pos (by omega)]
  · rw [if_neg e, tabTo, tabTo]
    by_cases h : (x < k ∧ y ≤ d.r.length) ∨ (x = k ∧ y < b)
    · rw [if_pos h, if_pos (by omega)]
    · rw [if_neg h, if_neg (by omega)]
theorem tabTo_zero (d : Rd) (k b : Nat) : putT (tabTo d k b) k b 0 = tabTo d k b := by
  funext x y
  unfold putT
  by_cases e : x = k ∧ y = b
  · rw [if_pos e, tabTo, if_neg (by omega)]
  · rw [if_neg e]
theorem putT_putT (T : Nat → Nat → Nat) (k b v v' : Nat) : putT (putT T k b v) k b v' = putT T k b v' := by
  funext x y
  unfold putT
  by_cases e : x = k ∧ y = b
  · rw [if_pos e, if_pos e]
  · rw [if_neg e, if_neg e, if_neg e]
/-- a table of counts in memory -/
structure CtM (w : World) (g n : Nat) (T : Nat → Nat → Nat) (W : World) : Prop where
  be : Below w.heap.size w W
  ge : w.heap.size ≤ g
  c : ∀ x y, x < n → y < 40 → W.cell? ⟨g, x * 40 + y, none⟩ = some (.int .i64 (T x y))
  f : ∀ j, W.frozen? ⟨g, j, none⟩ = false
  ow : ∃ xs, W.ownsRow w.heap.size 119 40 (.slice (some ⟨g, 0, none⟩) n n) n xs
theorem CtM.grow {w : World} {g n : Nat} {T : Nat → Nat → Nat} {W W' : World} (h : CtM w g n T W) (hn : 0 < n) (hb : Below W.heap.size W W') : CtM w g n T W' :=
  ⟨h.be.trans (hb.mono h.be.size), h.ge, fun x y hx hy => hb.on (h.c x y hx hy), fun j => (hb.frozen (p := ⟨g, j, none⟩) (show g < W.heap.size from World.block_lt_of_cell? _ _ (h.c 0 0 hn (by omega)))).trans (h.f j), let ⟨xs, h1⟩ := h.ow; ⟨xs, owns_below h1 hb⟩⟩
theorem CtM.put {w : World} {g n : Nat} {T : Nat → Nat → Nat} {W : World} (h : CtM w g n T W) {k b : Nat} (hk : k < n) (hb : b < 40) (v : Nat) : CtM w g n (putT T k b v) (W.setCell ⟨g, k * 40 + b, none⟩ (.int .i64 v)) := by
  refine ⟨h.be.setCell (p := ⟨g, k * 40 + b, none⟩) h.ge _, h.ge, fun x y hx hy => ?_, fun j => by rw [World.frozen?_setCell]; exact h.f j, let ⟨xs, h1⟩ := h.ow; ⟨_, (h1.stored _ _).1⟩⟩
  unfold putT
  by_cases e : x = k ∧ y = b
  · rw [if_pos e, e.1, e.2]
    exact World.cell?_setCell_same' _ _ _ (by rw [h.c k b hk hb]; rfl)
  · rw [if_neg e, setCell_offP _ _ (by omega)]
    exact h.c x y hx hy
theorem Try.infoCounts : (Try.prog.info? 119).map (fun i => (i.zero, i.size, i.bytes)) = some (some (.agg (List.replicate 40 (Value.int .i64 0)).toArray), 40, 320) := by kernel_rfl
theorem made_counts {w : World} {n : Nat} (hn : n ≤ 1000) :
    (Instr.makeSlice 116 (.int .i64 (n : Int)) (.int .i64 (n : Int))).run Try.prog w = .ok (.slice (some ⟨w.heap.size, 0, none⟩) n n) (w.alloc (.cells (Array.replicate (n * 40) (.int .i64 0)) 119)) := by
  obtain ⟨i, hi, hz0, hz1, hz2⟩ := info_parts Try.infoCounts
  have h := run_make (P := Try.prog) w 116 119 i _ Try.underlying116 hi hz0 .i64 .i64 n n (by omega) (by omega) (by rw [hz2]; omega) (by omega)
  rw [h, hz1]
  simp only [Int.toNat_natCast]
  have e : madeCells (Value.agg (List.replicate 40 (Value.int .i64 0)).toArray).cells (n * 40) = Array.replicate (n * 40) (Value.int .i64 0) := by
    refine Array.ext (by simp [madeCells]) (fun j h1 h2 => ?_)
    have h3 : j % 40 < 40 := Nat.mod_lt _ (by omega)
    simp only [madeCells, Array.getElem_map, Array.getElem_range, Array.getElem_replicate]
    have hs : (List.replicate 40 (Value.int .i64 0)).toArray.size = 40 := by rw [List.size_toArray, List.length_replicate]
    show (List.replicate 40 (Value.int .i64 0)).toArray[j % (List.replicate 40 (Value.int .i64 0)).toArray.size]! = _
    rw [hs, getElem!_pos _ _ (by rw [hs]; exact h3), List.getElem_toArray, List.getElem_replicate]
  rw [e]
theorem CtM.start (w : World) (n : Nat) (hn : n ≤ 1000) (T : Nat → Nat → Nat) (hT : ∀ x y, T x y = 0) : CtM w w.heap.size n T (w.alloc (.cells (Array.replicate (n * 40) (.int .i64 0)) 119)) := by
  refine ⟨(Below.refl _ w).alloc (Nat.le_refl _) _, Nat.le_refl _, fun x y hx hy => ?_, fun j => World.frozen?_alloc_new .., ⟨List.replicate (n * 40) (.int .i64 0), by simp, .inr ⟨w.heap.size, n, _, rfl, Nat.le_refl _, heap_alloc_new w _, Nat.le_refl _, by unfold maxLen; omega, by simp, by simp⟩⟩⟩
  rw [World.cell?_alloc_new, Array.getElem?_replicate, if_pos (by omega), hT]; rfl
/-- a roll and finds that can be counted -/
structure RdOk (d : Rd) : Prop where
  rr : SpR d.r
  fr : SpR d.f
  r1 : 1 ≤ d.r.length
  r39 : d.r.length ≤ 39
  m40 : d.m.length ≤ 40
  m1 : 1 ≤ d.m.length
  fm : d.f.length + 1 = d.m.length
/-- what lies in memory while ahead runs -/
structure AhM (w : World) (q g rl fl ml rc fc mc : Nat) (ra fa ma : Option Addr) (T : Nat → Nat → Nat) (W : World) : Prop where
  ct : CtM w g ml T W
  hq : w.heap.size ≤ q
  ne : q ≠ g ∧ q + 1 ≠ g
  k0 : W.cell? ⟨q, 0, none⟩ = some (.slice ra rl rc)
  k1 : W.cell? ⟨q + 1, 0, none⟩ = some (.slice fa fl fc)
  k2 : W.cell? ⟨q + 1, 1, none⟩ = some (.slice ma ml mc)
section
variable {w : World} {q g rl fl ml rc fc mc : Nat} {ra fa ma : Option Addr} {T : Nat → Nat → Nat} {W W' : World}
theorem AhM.grow (h : AhM w q g rl fl ml rc fc mc ra fa ma T W) (hn : 0 < ml) (hb : Below W.heap.size W W') : AhM w q g rl fl ml rc fc mc ra fa ma T W' :=
  ⟨h.ct.grow hn hb, h.hq, h.ne, hb.on h.k0, hb.on h.k1, hb.on h.k2⟩
theorem AhM.put (h : AhM w q g rl fl ml rc fc mc ra fa ma T W) {k b : Nat} (hk : k < ml) (hb : b < 40) (v : Nat) : AhM w q g rl fl ml rc fc mc ra fa ma (putT T k b v) (W.setCell ⟨g, k * 40 + b, none⟩ (.int .i64 v)) :=
  ⟨h.ct.put hk hb v, h.hq, h.ne, by rw [setCell_farP _ _ (fun e => h.ne.1 e.symm)]; exact h.k0, by rw [setCell_farP _ _ (fun e => h.ne.2 e.symm)]; exact h.k1, by rw [setCell_farP _ _ (fun e => h.ne.2 e.symm)]; exact h.k2⟩
end
set_option maxRecDepth 20000 in
set_option maxHeartbeats 2000000 in
theorem rahead_any {B rc : Nat} {ra : Option Addr} {d : Rd} {fv mv : Value} {w : World} (hd : RdOk d) (hB : B ≤ w.heap.size) (hr : RS B w (.slice ra d.r.length rc) d.r.length (spans d.r)) (hrc : d.r.length ≤ rc) (hf : RS B w fv d.f.length (spans d.f)) (hm : RS B w mv d.m.length (ints d.m)) :
    Calls Try.prog 60 #[.agg #[.slice ra d.r.length rc], .agg #[fv, mv]] w fun e w' => ∃ g, e = .returned (.slice (some ⟨g, 0, none⟩) d.m.length d.m.length) ∧ CtM w g d.m.length (tabTo d d.m.length 0) w' := by
  have HD := Lib.hid hd
  have HR := Lib.hid (And.intro hB (And.intro hr (And.intro hf hm)))
  obtain ⟨rb, ro, rfl⟩ : ∃ rb ro, ra = some ⟨rb, ro, none⟩ := by
    obtain ⟨a2, c2, e2, h2⟩ := hr
    cases e2
    obtain ⟨rb, ro, rfl, -⟩ := h2 (by intro h; have h5 := congrArg List.length h; rw [spans_length, List.length_nil] at h5; have := hd.r1; omega)
    exact ⟨rb, ro, rfl⟩
  obtain ⟨fa, fc, rfl, -⟩ := hf
  obtain ⟨ma, mc, rfl, -⟩ := hm
  have r39 := hd.r39
  have m40 := hd.m40
  have m1 := hd.m1
  have fm := hd.fm
  obtain ⟨rl, hrl⟩ : ∃ x, x = d.r.length := ⟨_, rfl⟩
  obtain ⟨fl, hfl⟩ : ∃ x, x = d.f.length := ⟨_, rfl⟩
  obtain ⟨ml, hml⟩ : ∃ x, x = d.m.length := ⟨_, rfl⟩
  have HL := Lib.hid (And.intro hrl (And.intro hfl hml))
  rw [← hrl, ← hfl, ← hml] at HR
  rw [← hrl] at r39 hrc
  rw [← hml] at m40 m1 fm
  rw [← hfl] at fm
  rw [← hrl, ← hfl, ← hml]
  have HM : Hid (Below w.heap.size w ((w.alloc (.cells #[.slice (some ⟨rb, ro, none⟩) rl rc] 87)).alloc (.cells #[.slice fa fl fc, .slice ma ml mc] 90)) ∧ ((w.alloc (.cells #[.slice (some ⟨rb, ro, none⟩) rl rc] 87)).alloc (.cells #[.slice fa fl fc, .slice ma ml mc] 90)).cell? ⟨w.heap.size, 0, none⟩ = some (.slice (some ⟨rb, ro, none⟩) rl rc) ∧ ((w.alloc (.cells #[.slice (some ⟨rb, ro, none⟩) rl rc] 87)).alloc (.cells #[.slice fa fl fc, .slice ma ml mc] 90)).cell? ⟨w.heap.size + 1, 0, none⟩ = some (.slice fa fl fc) ∧ ((w.alloc (.cells #[.slice (some ⟨rb, ro, none⟩) rl rc] 87)).alloc (.cells #[.slice fa fl fc, .slice ma ml mc] 90)).cell? ⟨w.heap.size + 1, 1, none⟩ = some (.slice ma ml mc)) := Lib.hid (by
    refine ⟨((Below.refl _ w).alloc (Nat.le_refl _) _).alloc (by simp) _, ?_, ?_, ?_⟩ <;> simp [go_sem])
  clear hB hrl hfl hml hr hd
  go_enter Try.func60, Try.ntmps60
  go_upto_region 1 with (fail)
  obtain ⟨q, hq⟩ : ∃ q, q = w.heap.size := ⟨_, rfl⟩
  have HQ := Lib.hid hq.symm
  rw [← hq] at HM
  simp only [← hq]
  clear hq
  generalize ((w.alloc (.cells #[.slice (some ⟨rb, ro, none⟩) rl rc] 87)).alloc (.cells #[.slice fa fl fc, .slice ma ml mc] 90)) = w1 at HM ⊢
  obtain ⟨-, k0, k1, k2⟩ := HM.out
  have HW1 : Hid (Below w.heap.size w w1) := Lib.hid (by rw [HQ.out]; exact HM.out.1)
  have hmk := made_counts (w := w1) (n := ml) (by omega)
  have k0' := cell_al (.cells (Array.replicate (ml * 40) (.int .i64 0)) 119) k0
  have k1' := cell_al (.cells (Array.replicate (ml * 40) (.int .i64 0)) 119) k1
  have k2' := cell_al (.cells (Array.replicate (ml * 40) (.int .i64 0)) 119) k2
  have M0 : Hid (AhM w q w1.heap.size rl fl ml rc fc mc (some ⟨rb, ro, none⟩) fa ma (tabTo d 0 0) (w1.alloc (.cells (Array.replicate (ml * 40) (.int .i64 0)) 119))) := Lib.hid (by
    have h1 := CtM.start w1 ml (by omega) (tabTo d 0 0) (fun x y => by rw [tabTo, if_neg (by omega)])
    have hl := World.block_lt_of_cell? _ _ k1
    have hq : q + 1 < w1.heap.size := hl
    exact ⟨⟨HW1.out.trans (h1.be.mono HW1.out.size), Nat.le_trans HW1.out.size h1.ge, h1.c, h1.f, let ⟨xs, h2⟩ := h1.ow; ⟨xs, owns_mono h2 HW1.out.size⟩⟩, by rw [HQ.out]; exact Nat.le_refl _, by omega, k0', k1', k2'⟩)
  go_wp2_with fail
  obtain ⟨g, hg⟩ : ∃ g, g = w1.heap.size := ⟨_, rfl⟩
  rw [← hg] at M0 ⊢
  generalize w1.alloc (.cells (Array.replicate (ml * 40) (.int .i64 0)) 119) = w2 at M0 ⊢
  clear hg k0' k1' k2' k0 k1 k2 hmk HM
  go_loopw [18] (fun kv wr => ∃ k : Nat, k ≤ ml ∧ kv = .int .i64 k ∧ Hid (AhM w q g rl fl ml rc fc mc (some ⟨rb, ro, none⟩) fa ma (tabTo d k 0) wr)) (fun kv _ => ml - (intOf kv).toNat)
  case atStart => exact ⟨0, Nat.zero_le _, by go_num, M0⟩
  case round =>
    clear M0
    obtain ⟨k, hkm, rfl, hM⟩ := hrel
    by_cases hlt : k < ml
    · have g1 : decide ((k : Int) < ml) = true := decide_eq_true (by omega)
      obtain ⟨mb, mo, rfl, hmc⟩ : ∃ mb mo, ma = some ⟨mb, mo, none⟩ ∧ Hid (∀ W, Below w.heap.size w W → ∀ j, j < ml → W.cell? ⟨mb, mo + j, none⟩ = some (.int .i64 (d.m.getD j (-1)))) := by
        obtain ⟨a2, c2, e2, h2⟩ := HR.out.2.2.2
        cases e2
        obtain ⟨mb, mo, rfl, h3, h4⟩ := h2 (ints_ne (by have := HL.out; omega))
        refine ⟨mb, mo, rfl, Lib.hid fun W hW j hj => ?_⟩
        have hj' : j < d.m.length := by have := HL.out; omega
        have h5 := h4 j _ (ints_at' d.m j hj')
        rw [(hW.mono HR.out.1).cell (p := ⟨mb, mo + j, none⟩) h3, h5, List.getD_eq_getElem?_getD, List.getElem?_eq_getElem hj']; rfl
      have cm := hmc.out wr hM.out.ct.be k hlt
      obtain ⟨nm, hnm⟩ : ∃ z, z = d.m.getD k (-1) := ⟨_, rfl⟩
      rw [← hnm] at cm
      have HNM := Lib.hid hnm
      have k0 := hM.out.k0
      obtain ⟨r1, hr1⟩ : ∃ z, z = rl + 1 := ⟨_, rfl⟩
      have hr1a : r1 ≤ rl + 1 := by omega
      have hr1b : rl + 1 ≤ r1 := by omega
      have HR1 := Lib.hid hr1
      have hwr : IntKind.i64.wrap ((rl : Int) + 1) = (r1 : Int) := by rw [IntWalk.i64_in _ (by omega)]; omega
      clear hr1
      clear hnm
      go_wp2_with fail
      obtain ⟨wo, rfl⟩ : ∃ wo : World, wo = wr := ⟨_, rfl⟩
      go_loopw [27] (fun kv wr => ∃ b : Nat, b ≤ r1 ∧ kv = .int .i64 b ∧ Hid (AhM w q g rl fl ml rc fc mc (some ⟨rb, ro, none⟩) fa (some ⟨mb, mo, none⟩) (tabTo d k b) wr)) (fun kv _ => r1 - (intOf kv).toNat)
      case atStart => exact ⟨0, Nat.zero_le _, by go_num, hM⟩
      case round =>
        clear hM k0 cm g1
        obtain ⟨b, hbr, rfl, hN⟩ := hrel
        by_cases hlb : b < r1
        · have g1 : decide ((b : Int) < (r1 : Int)) = true := decide_eq_true (by omega)
          have b40 : (b : Int) < 40 := by omega
          have kml : (k : Int) < ml := by omega
          by_cases hn1 : nm = -1
          · have d2 : (nm != -1) = false := by simp [hn1]
            have HCB : Hid (canB d k b = true) := Lib.hid (by unfold canB; rw [← HNM.out, decide_eq_true hn1]; rfl)
            clear hn1
            by_cases hkz : k = 0
            · subst hkz
              have f0 := hN.out.ct.f (0 * 40 + b)
              have c0 := hN.out.ct.c 0 b (by omega) (by omega)
              have HP := Lib.hid (hN.out.put (k := 0) (by omega) (show b < 40 by omega) 1)
              have HTB : Hid (putT (tabTo d 0 b) 0 b 1 = tabTo d 0 (b + 1)) := Lib.hid (by rw [← tabTo_put, cnt, HCB.out]; rfl)
              rw [HTB.out] at HP
              rw [show 0 * 40 + b = b by omega] at f0 c0 HP
              clear HTB
              go_wp2_with fail
              exact ⟨⟨b + 1, by omega, by go_num, HP⟩, by simp [intOf]; omega⟩
            · obtain ⟨kp, hkp⟩ : ∃ kp, k = kp + 1 := ⟨k - 1, by omega⟩
              have HKP := Lib.hid hkp
              have hk1 : IntKind.i64.wrap ((k : Int) - 1) = (kp : Int) := by rw [IntWalk.i64_in _ (by omega)]; omega
              have hk0 : ((k : Int) == 0) = false := by rw [beq_eq_false_iff_ne]; omega
              have hkpm : kp < ml := by omega
              have HCS : Hid (cnt d k b = cntP d kp b b) := Lib.hid (by have h := HCB.out; rw [HKP.out] at h ⊢; rw [cnt_succ, h]; rfl)
              clear hkz hkp
              go_wp2_with fail
              obtain ⟨wp, rfl⟩ : ∃ wp : World, wp = wr := ⟨_, rfl⟩
              go_loopw [45] (fun kv wr => ∃ a : Nat, a ≤ b ∧ kv = .int .i64 a ∧ Hid (AhM w q g rl fl ml rc fc mc (some ⟨rb, ro, none⟩) fa (some ⟨mb, mo, none⟩) (putT (tabTo d k b) k b (cntP d kp b a)) wr)) (fun kv _ => b - (intOf kv).toNat)
              case atStart => exact ⟨0, Nat.zero_le _, by go_num, by show Hid (AhM w q g rl fl ml rc fc mc _ fa _ (putT (tabTo d k b) k b 0) _); rw [tabTo_zero]; exact hN⟩
              case round =>
                clear hN
                obtain ⟨a, hab, rfl, hP⟩ := hrel
                by_cases hla : a < b
                · have g2 : decide ((a : Int) < b) = true := decide_eq_true (by omega)
                  have a40 : (a : Int) < 40 := by omega
                  have hkkp := HKP.out
                  have kk : (kp : Int) < ml := by omega
                  have km : kp < ml := by omega
                  have HTA : Hid (putT (tabTo d k b) k b (cntP d kp b a) kp a = cnt d kp a) := Lib.hid (by
                    rw [putT, if_neg (by omega), tabTo, if_pos (.inl ⟨by omega, by have := HL.out.1; omega⟩)])
                  have ca := hP.out.ct.c kp a (by omega) (by omega)
                  rw [HTA.out] at ca
                  have bn := cnt_le d kp a
                  have bp : 2 ^ a ≤ 2 ^ 39 := Nat.pow_le_pow_right (by omega) (by omega)
                  obtain ⟨nn, hnn⟩ : ∃ z, z = cnt d kp a := ⟨_, rfl⟩
                  rw [← hnn] at ca bn
                  have HNN := Lib.hid hnn
                  obtain ⟨ft, hft⟩ : ∃ z, z = fitsB d.r a b (d.f.getD kp (0, 0)) := ⟨_, rfl⟩
                  have HPS : Hid (cntP d kp b (a + 1) = cntP d kp b a + (if ft = true then nn else 0)) := Lib.hid (by rw [cntP, ← hnn, ← hft])
                  have HFT := Lib.hid hft
                  clear hnn hft HTA hkkp
                  by_cases hz : nn = 0
                  · have g3 : decide ((0 : Int) < nn) = false := by simp; omega
                    have g3n : ¬ 0 < nn := by omega
                    have HPE : Hid (cntP d kp b (a + 1) = cntP d kp b a) := Lib.hid (by rw [HPS.out, hz]; split <;> rfl)
                    clear hz bn bp
                    go_wp2_with fail
                    have hC : True := trivial
                    have HD2 := Lib.hid (hP.out.grow m1 (Below.refl _ wr).drew)
                    refine Lim.regC' (fun _ => True) [] #[false, false, false, false, false, false, false, false, false, false, false, false, false, false] (by kernel_rfl) rfl ?_
                    refine Lim.stepR 0 (fun _ => trivial) rfl (by kernel_rfl) (fun _ _ _ _ h => h) hC rfl ?_; apply Exists.intro; refine ⟨?_, ?_⟩
                    · rintro w -; go_simp; try with_reducible rfl
                    simp only [Act.put, List.setIfInBounds_toArray, List.set_cons_succ, List.set_cons_zero]
                    refine Lim.stepR 1 (fun _ => trivial) rfl (by kernel_rfl) (fun _ _ _ _ h => h) hC rfl ?_; apply Exists.intro; refine ⟨?_, ?_⟩
                    · rintro w -; go_simp; try with_reducible rfl
                    simp only [Act.put, List.setIfInBounds_toArray, List.set_cons_succ, List.set_cons_zero]
                    refine Lim.stepR 2 (fun _ => trivial) rfl (by kernel_rfl) (fun _ _ _ _ h => h) hC rfl ?_; apply Exists.intro; refine ⟨?_, ?_⟩
                    · rintro w -; go_simp; try with_reducible rfl
                    simp only [Act.put, List.setIfInBounds_toArray, List.set_cons_succ, List.set_cons_zero]
                    refine Lim.stepS 3 (fun _ => trivial) rfl (by kernel_rfl) (fun _ _ _ _ h => h) hC rfl ?_
                    simp only [Act.put, List.setIfInBounds_toArray, List.set_cons_succ, List.set_cons_zero]
                    refine Lim.stepS 4 (fun _ => trivial) rfl (by kernel_rfl) (fun _ _ _ _ h => h) hC rfl ?_
                    simp only [Act.put, List.setIfInBounds_toArray, List.set_cons_succ, List.set_cons_zero]
                    refine Lim.stepS 5 (fun _ => trivial) rfl (by kernel_rfl) (fun _ _ _ _ h => h) hC rfl ?_
                    simp only [Act.put, List.setIfInBounds_toArray, List.set_cons_succ, List.set_cons_zero]
                    refine Lim.stepS 6 (fun _ => trivial) rfl (by kernel_rfl) (fun _ _ _ _ h => h) hC rfl ?_
                    simp only [Act.put, List.setIfInBounds_toArray, List.set_cons_succ, List.set_cons_zero]
                    refine Lim.stepS 7 (fun _ => trivial) rfl (by kernel_rfl) (fun _ _ _ _ h => h) hC rfl ?_
                    simp only [Act.put, List.setIfInBounds_toArray, List.set_cons_succ, List.set_cons_zero]
                    refine Lim.stepS 8 (fun _ => trivial) rfl (by kernel_rfl) (fun _ _ _ _ h => h) hC rfl ?_
                    simp only [Act.put, List.setIfInBounds_toArray, List.set_cons_succ, List.set_cons_zero]
                    refine Lim.stepS 9 (fun _ => trivial) rfl (by kernel_rfl) (fun _ _ _ _ h => h) hC rfl ?_
                    simp only [Act.put, List.setIfInBounds_toArray, List.set_cons_succ, List.set_cons_zero]
                    refine Lim.stepS 10 (fun _ => trivial) rfl (by kernel_rfl) (fun _ _ _ _ h => h) hC rfl ?_
                    simp only [Act.put, List.setIfInBounds_toArray, List.set_cons_succ, List.set_cons_zero]
                    refine Lim.stepS 11 (fun _ => trivial) rfl (by kernel_rfl) (fun _ _ _ _ h => h) hC rfl ?_
                    simp only [Act.put, List.setIfInBounds_toArray, List.set_cons_succ, List.set_cons_zero]
                    refine Lim.stepS 12 (fun _ => trivial) rfl (by kernel_rfl) (fun _ _ _ _ h => h) hC rfl ?_
                    simp only [Act.put, List.setIfInBounds_toArray, List.set_cons_succ, List.set_cons_zero]
                    refine Lim.stepR 13 (fun _ => trivial) rfl (by kernel_rfl) (fun _ _ _ _ h => h) hC rfl ?_; apply Exists.intro; refine ⟨?_, ?_⟩
                    · rintro w -; go_simp; try with_reducible rfl
                    simp only [Act.put, List.setIfInBounds_toArray, List.set_cons_succ, List.set_cons_zero]
                    refine Lim.stepD (by kernel_rfl) ?_
                    go_wp2
                    go_roundw
                    case rel => exact ⟨a + 1, by omega, by go_num, by rw [HPE.out]; exact HD2⟩
                    case measure => simp [intOf]; omega
                  · have g3 : decide ((0 : Int) < nn) = true := by simp; omega
                    have g3n : 0 < nn := by omega
                    obtain ⟨glo, hglo⟩ : ∃ z, z = (d.f.getD kp (0, 0)).1 := ⟨_, rfl⟩
                    obtain ⟨ghi, hghi⟩ : ∃ z, z = (d.f.getD kp (0, 0)).2 := ⟨_, rfl⟩
                    have hkf : kp < d.f.length := by have := HL.out.2.1; have := HKP.out; omega
                    have hG : 0 ≤ glo ∧ glo ≤ ghi ∧ ghi ≤ 1000000 := by
                      have h := HD.out.fr _ (List.getElem_mem hkf)
                      rw [hglo, hghi, List.getD_eq_getElem?_getD, List.getElem?_eq_getElem hkf]
                      exact h
                    obtain ⟨fb, fo, rfl, hfc⟩ : ∃ fb fo, fa = some ⟨fb, fo, none⟩ ∧ Hid (∀ W, Below w.heap.size w W → W.cell? ⟨fb, fo + kp * 2, none⟩ = some (.int .i64 glo) ∧ W.cell? ⟨fb, fo + kp * 2 + 1, none⟩ = some (.int .i64 ghi)) := by
                      obtain ⟨a2, c2, e2, h2⟩ := HR.out.2.2.1
                      cases e2
                      obtain ⟨fb, fo, rfl, h3, h4⟩ := h2 (by intro h; have h5 := congrArg List.length h; rw [spans_length, List.length_nil] at h5; omega)
                      refine ⟨fb, fo, rfl, Lib.hid fun W hW => ?_⟩
                      have hb := hW.mono HR.out.1
                      have h5 := h4 (kp * 2) _ (spans_lo d.f kp hkf)
                      have h6 := h4 (kp * 2 + 1) _ (spans_hi d.f kp hkf)
                      rw [hglo, hghi, List.getD_eq_getElem?_getD, List.getElem?_eq_getElem hkf]
                      rw [← Nat.add_assoc] at h6
                      exact ⟨cell_below hb h5 h3, cell_below hb h6 h3⟩
                    have HFF : Hid (∀ W, Below w.heap.size w W → Calls Try.prog 81 #[.agg #[.slice (some ⟨rb, ro, none⟩) rl rc], .int .i64 a, .int .i64 b, .agg #[.int .i64 glo, .int .i64 ghi]] W fun e w' => e = .returned (.bool ft) ∧ Below W.heap.size W w') := Lib.hid fun W hW => by
                      have h := fits_any (a := a) (b := b) (glo := glo) (ghi := ghi) (HR.out.2.1.below (hW.mono HR.out.1)) (Nat.le_trans HR.out.1 hW.size) HL.out.1 hrc (by omega) HD.out.rr hla (by omega) ⟨hG.2.1, by omega, by omega⟩
                      rw [HFT.out, show d.f.getD kp (0, 0) = (glo, ghi) from by rw [hglo, hghi]]
                      exact h
                    have kf : (kp : Int) < fl := by have := HKP.out; omega
                    have d0 := hP.out.k0
                    have d1 := hP.out.k1
                    obtain ⟨f1, f2⟩ := hfc.out wr hP.out.ct.be
                    have HNZ := Lib.hid hz
                    clear hglo hghi hG hkf hz
                    go_wp2_with fail
                    have HD2 := Lib.hid (hP.out.grow m1 (Below.refl _ wr).drew)
                    have hC : (fun w => w.cell? ⟨q, 0, none⟩ = some (.slice (some ⟨rb, ro, none⟩) rl rc) ∧ w.cell? ⟨q + 1, 0, none⟩ = some (.slice (some ⟨fb, fo, none⟩) fl fc) ∧ w.cell? ⟨fb, fo + kp * 2, none⟩ = some (.int .i64 glo) ∧ w.cell? ⟨fb, fo + kp * 2 + 1, none⟩ = some (.int .i64 ghi)) wr.drew := ⟨d0, d1, f1, f2⟩
                    generalize hW0 : wr.drew = w9 at hC HD2
                    have H9 := Lib.hid (HFF.out w9 HD2.out.ct.be)
                    refine Lim.regC' (fun w => w.cell? ⟨q, 0, none⟩ = some (.slice (some ⟨rb, ro, none⟩) rl rc) ∧ w.cell? ⟨q + 1, 0, none⟩ = some (.slice (some ⟨fb, fo, none⟩) fl fc) ∧ w.cell? ⟨fb, fo + kp * 2, none⟩ = some (.int .i64 glo) ∧ w.cell? ⟨fb, fo + kp * 2 + 1, none⟩ = some (.int .i64 ghi)) [] #[false, false, false, false, false, false, false, false, false, false, false, false, false, false] (by kernel_rfl) rfl ?_
                    rw [hW0]
                    clear hW0
                    refine Lim.stepR 0 (fun _ => trivial) rfl (by kernel_rfl) (fun _ _ _ _ h => h) hC rfl ?_; apply Exists.intro; refine ⟨?_, ?_⟩
                    · rintro w ⟨r1, r2, r3, r4⟩; go_simp; try with_reducible rfl
                    simp only [Act.put, List.setIfInBounds_toArray, List.set_cons_succ, List.set_cons_zero]
                    refine Lim.stepR 1 (fun _ => trivial) rfl (by kernel_rfl) (fun _ _ _ _ h => h) hC rfl ?_; apply Exists.intro; refine ⟨?_, ?_⟩
                    · rintro w ⟨r1, r2, r3, r4⟩; go_simp; try with_reducible rfl
                    simp only [Act.put, List.setIfInBounds_toArray, List.set_cons_succ, List.set_cons_zero]
                    refine Lim.stepR 2 (fun _ => trivial) rfl (by kernel_rfl) (fun _ _ _ _ h => h) hC rfl ?_; apply Exists.intro; refine ⟨?_, ?_⟩
                    · rintro w ⟨r1, r2, r3, r4⟩; go_simp; try with_reducible rfl
                    simp only [Act.put, List.setIfInBounds_toArray, List.set_cons_succ, List.set_cons_zero]
                    refine Lim.stepR 3 (fun _ => trivial) rfl (by kernel_rfl) (fun _ _ _ _ h => h) hC rfl ?_; apply Exists.intro; refine ⟨?_, ?_⟩
                    · rintro w ⟨r1, r2, r3, r4⟩; go_simp; try with_reducible rfl
                    simp only [Act.put, List.setIfInBounds_toArray, List.set_cons_succ, List.set_cons_zero]
                    refine Lim.stepR 4 (fun _ => trivial) rfl (by kernel_rfl) (fun _ _ _ _ h => h) hC rfl ?_; apply Exists.intro; refine ⟨?_, ?_⟩
                    · rintro w ⟨r1, r2, r3, r4⟩; go_simp; try with_reducible rfl
                    simp only [Act.put, List.setIfInBounds_toArray, List.set_cons_succ, List.set_cons_zero]
                    refine Lim.stepR 5 (fun _ => trivial) rfl (by kernel_rfl) (fun _ _ _ _ h => h) hC rfl ?_; apply Exists.intro; refine ⟨?_, ?_⟩
                    · rintro w ⟨r1, r2, r3, r4⟩; go_simp; try with_reducible rfl
                    simp only [Act.put, List.setIfInBounds_toArray, List.set_cons_succ, List.set_cons_zero]
                    refine Lim.stepR 6 (fun _ => trivial) rfl (by kernel_rfl) (fun _ _ _ _ h => h) hC rfl ?_; apply Exists.intro; refine ⟨?_, ?_⟩
                    · rintro w ⟨r1, r2, r3, r4⟩; go_simp; try with_reducible rfl
                    simp only [Act.put, List.setIfInBounds_toArray, List.set_cons_succ, List.set_cons_zero]
                    refine Lim.stepR 7 (fun _ => trivial) rfl (by kernel_rfl) (fun _ _ _ _ h => h) hC rfl ?_; apply Exists.intro; refine ⟨?_, ?_⟩
                    · rintro w ⟨r1, r2, r3, r4⟩; go_simp; try with_reducible rfl
                    simp only [Act.put, List.setIfInBounds_toArray, List.set_cons_succ, List.set_cons_zero]
                    refine Lim.stepR 8 (fun _ => trivial) rfl (by kernel_rfl) (fun _ _ _ _ h => h) hC rfl ?_; apply Exists.intro; refine ⟨?_, ?_⟩
                    · rintro w ⟨r1, r2, r3, r4⟩; go_simp; try with_reducible rfl
                    simp only [Act.put, List.setIfInBounds_toArray, List.set_cons_succ, List.set_cons_zero]
                    refine Lim.stepR 9 (fun _ => trivial) rfl (by kernel_rfl) (fun _ _ _ _ h => h) hC rfl ?_; apply Exists.intro; refine ⟨?_, ?_⟩
                    · rintro w ⟨r1, r2, r3, r4⟩; go_simp; try with_reducible rfl
                    simp only [Act.put, List.setIfInBounds_toArray, List.set_cons_succ, List.set_cons_zero]
                    refine Lim.stepR 10 (fun _ => trivial) rfl (by kernel_rfl) (fun _ _ _ _ h => h) hC rfl ?_; apply Exists.intro; refine ⟨?_, ?_⟩
                    · rintro w ⟨r1, r2, r3, r4⟩; go_simp; try with_reducible rfl
                    simp only [Act.put, List.setIfInBounds_toArray, List.set_cons_succ, List.set_cons_zero]
                    refine Lim.stepR 11 (fun _ => trivial) rfl (by kernel_rfl) (fun _ _ _ _ h => h) hC rfl ?_; apply Exists.intro; refine ⟨?_, ?_⟩
                    · rintro w ⟨r1, r2, r3, r4⟩; go_simp; try with_reducible rfl
                    simp only [Act.put, List.setIfInBounds_toArray, List.set_cons_succ, List.set_cons_zero]
                    refine Lim.stepE 12 (fun _ => trivial) rfl (by kernel_rfl) rfl (fun K hK => ?_)   -- E call
                    go_simp
                    refine ⟨rfl, (callsIn_wide.2 H9.out).mono ?_⟩
                    rintro e w3 ⟨rfl, hb3⟩
                    have hC2 : (fun w => w.cell? ⟨q, 0, none⟩ = some (.slice (some ⟨rb, ro, none⟩) rl rc) ∧ w.cell? ⟨q + 1, 0, none⟩ = some (.slice (some ⟨fb, fo, none⟩) fl fc) ∧ w.cell? ⟨fb, fo + kp * 2, none⟩ = some (.int .i64 glo) ∧ w.cell? ⟨fb, fo + kp * 2 + 1, none⟩ = some (.int .i64 ghi)) w3 := ⟨hb3.on hC.1, hb3.on hC.2.1, hb3.on hC.2.2.1, hb3.on hC.2.2.2⟩
                    have HD3 := Lib.hid (HD2.out.grow m1 hb3)
                    clear hb3
                    refine hK _ _ hC2 ?_
                    simp only [Act.put, List.setIfInBounds_toArray, List.set_cons_succ, List.set_cons_zero]
                    refine Lim.stepR 13 (fun _ => trivial) rfl (by kernel_rfl) (fun _ _ _ _ h => h) hC2 rfl ?_; apply Exists.intro; refine ⟨?_, ?_⟩
                    · rintro w ⟨r1, r2, r3, r4⟩; go_simp; try with_reducible rfl
                    simp only [Act.put, List.setIfInBounds_toArray, List.set_cons_succ, List.set_cons_zero]
                    refine Lim.stepD (by kernel_rfl) ?_
                    clear hC hC2 d0 d1 f1 f2 H9 HFF HD2
                    cases ft with
                    | false =>
                      have HPE : Hid (cntP d kp b (a + 1) = cntP d kp b a) := Lib.hid (by rw [HPS.out]; rfl)
                      go_wp2
                      go_roundw
                      case rel => exact ⟨a + 1, by omega, by go_num, by rw [HPE.out]; exact HD3⟩
                      case measure => simp [intOf]; omega
                    | true =>
                      have HPE : Hid (cntP d kp b (a + 1) = cntP d kp b a + nn) := Lib.hid (by rw [HPS.out]; rfl)
                      go_wp2_with fail
                      have HD4 := Lib.hid (HD3.out.grow m1 (Below.refl _ w3).drew)
                      have cb := HD4.out.ct.c k b (by omega) (by omega)
                      rw [putT, if_pos ⟨rfl, rfl⟩] at cb
                      have bs := cntP_lt d kp b (a + 1)
                      have bp2 : 2 ^ (a + 1) ≤ 2 ^ 39 := Nat.pow_le_pow_right (by omega) (by omega)
                      rw [HPE.out] at bs
                      obtain ⟨cp, hcp⟩ : ∃ z, z = cntP d kp b a := ⟨_, rfl⟩
                      rw [← hcp] at cb bs
                      obtain ⟨sm, hsm⟩ : ∃ z, z = cp + nn := ⟨_, rfl⟩
                      have hwa : IntKind.i64.wrap ((cp : Int) + nn) = (sm : Int) := by rw [IntWalk.i64_in _ (by omega)]; omega
                      have fz := HD4.out.ct.f (k * 40 + b)
                      have HP5 : Hid (AhM w q g rl fl ml rc fc mc (some ⟨rb, ro, none⟩) (some ⟨fb, fo, none⟩) (some ⟨mb, mo, none⟩) (putT (tabTo d k b) k b (cntP d kp b (a + 1))) (w3.drew.setCell ⟨g, k * 40 + b, none⟩ (.int .i64 (sm : Int)))) := Lib.hid (by
                        have h := HD4.out.put (k := k) (b := b) (by omega) (by omega) sm
                        rw [putT_putT] at h
                        rw [HPE.out, ← hcp, ← hsm]
                        exact h)
                      have hC : (fun w => w.cell? ⟨g, k * 40 + b, none⟩ = some (.int .i64 cp)) w3.drew := cb
                      generalize hW0 : w3.drew = w10 at hC fz HP5
                      clear hcp bs bp2 HD4 cb hsm
                      refine Lim.regC' (fun w => w.cell? ⟨g, k * 40 + b, none⟩ = some (.int .i64 cp)) [10] #[false, false, false, false, false, false, false, false, false, false, false] (by kernel_rfl) rfl ?_
                      rw [hW0]
                      clear hW0
                      refine Lim.stepR 0 (fun _ => trivial) rfl (by kernel_rfl) (fun _ _ _ _ h => h) hC rfl ?_; apply Exists.intro; refine ⟨?_, ?_⟩
                      · rintro w r1; go_simp; try with_reducible rfl
                      simp only [Act.put, List.setIfInBounds_toArray, List.set_cons_succ, List.set_cons_zero]
                      refine Lim.stepR 1 (fun _ => trivial) rfl (by kernel_rfl) (fun _ _ _ _ h => h) hC rfl ?_; apply Exists.intro; refine ⟨?_, ?_⟩
                      · rintro w r1; go_simp; try with_reducible rfl
                      simp only [Act.put, List.setIfInBounds_toArray, List.set_cons_succ, List.set_cons_zero]
                      refine Lim.stepR 2 (fun _ => trivial) rfl (by kernel_rfl) (fun _ _ _ _ h => h) hC rfl ?_; apply Exists.intro; refine ⟨?_, ?_⟩
                      · rintro w r1; go_simp; try with_reducible rfl
                      simp only [Act.put, List.setIfInBounds_toArray, List.set_cons_succ, List.set_cons_zero]
                      refine Lim.stepR 3 (fun _ => trivial) rfl (by kernel_rfl) (fun _ _ _ _ h => h) hC rfl ?_; apply Exists.intro; refine ⟨?_, ?_⟩
                      · rintro w r1; go_simp; try with_reducible rfl
                      simp only [Act.put, List.setIfInBounds_toArray, List.set_cons_succ, List.set_cons_zero]
                      refine Lim.stepR 4 (fun _ => trivial) rfl (by kernel_rfl) (fun _ _ _ _ h => h) hC rfl ?_; apply Exists.intro; refine ⟨?_, ?_⟩
                      · rintro w r1; go_simp; try with_reducible rfl
                      simp only [Act.put, List.setIfInBounds_toArray, List.set_cons_succ, List.set_cons_zero]
                      refine Lim.stepR 5 (fun _ => trivial) rfl (by kernel_rfl) (fun _ _ _ _ h => h) hC rfl ?_; apply Exists.intro; refine ⟨?_, ?_⟩
                      · rintro w r1; go_simp; try with_reducible rfl
                      simp only [Act.put, List.setIfInBounds_toArray, List.set_cons_succ, List.set_cons_zero]
                      refine Lim.stepR 6 (fun _ => trivial) rfl (by kernel_rfl) (fun _ _ _ _ h => h) hC rfl ?_; apply Exists.intro; refine ⟨?_, ?_⟩
                      · rintro w r1; go_simp; try with_reducible rfl
                      simp only [Act.put, List.setIfInBounds_toArray, List.set_cons_succ, List.set_cons_zero]
                      refine Lim.stepR 7 (fun _ => trivial) rfl (by kernel_rfl) (fun _ _ _ _ h => h) hC rfl ?_; apply Exists.intro; refine ⟨?_, ?_⟩
                      · rintro w r1; go_simp; try with_reducible rfl
                      simp only [Act.put, List.setIfInBounds_toArray, List.set_cons_succ, List.set_cons_zero]
                      refine Lim.stepR 8 (fun _ => trivial) rfl (by kernel_rfl) (fun _ _ _ _ h => h) hC rfl ?_; apply Exists.intro; refine ⟨?_, ?_⟩
                      · rintro w r1; go_simp; try with_reducible rfl
                      simp only [Act.put, List.setIfInBounds_toArray, List.set_cons_succ, List.set_cons_zero]
                      refine Lim.stepR 9 (fun _ => trivial) rfl (by kernel_rfl) (fun _ _ _ _ h => h) hC rfl ?_; apply Exists.intro; refine ⟨?_, ?_⟩
                      · rintro w r1; go_simp; try with_reducible rfl
                      simp only [Act.put, List.setIfInBounds_toArray, List.set_cons_succ, List.set_cons_zero]
                      refine Lim.stepX 10 (fun _ => trivial) rfl (by kernel_rfl) rfl rfl (fun K hK => ?_)
                      go_simp
                      refine hK _ _ ?_
                      simp only [Act.put, List.setIfInBounds_toArray, List.set_cons_succ, List.set_cons_zero]
                      refine Lim.segC (fun _ => True) [] ?_
                      refine Lim.stepD (by kernel_rfl) ?_
                      clear hC fz
                      generalize w10.setCell ⟨g, k * 40 + b, none⟩ (.int .i64 (sm : Int)) = w11 at HP5 ⊢
                      go_wp2
                      go_roundw
                      case rel => exact ⟨a + 1, by omega, by go_num, HP5⟩
                      case measure => simp [intOf]; omega
                · obtain rfl : a = b := by omega
                  have g2 : decide ((a : Int) < a) = false := by simp
                  have HTB : Hid (putT (tabTo d k a) k a (cntP d kp a a) = tabTo d k (a + 1)) := Lib.hid (by rw [← HCS.out, tabTo_put])
                  rw [HTB.out] at hP
                  clear HTB
                  go_wp2
                  go_roundw
                  case rel => exact ⟨a + 1, by omega, by go_num, hP⟩
                  case measure => simp [intOf]; omega
          · have d2 : (nm != -1) = true := by simp [hn1]
            by_cases hn2 : nm = (b : Int)
            · have d3 : (nm != (b : Int)) = false := by simp [hn2]
              have HCB : Hid (canB d k b = true) := Lib.hid (by unfold canB; rw [← HNM.out, decide_eq_true hn2, Bool.or_true])
              clear hn1 hn2
              by_cases hkz : k = 0
              · subst hkz
                have f0 := hN.out.ct.f (0 * 40 + b)
                have c0 := hN.out.ct.c 0 b (by omega) (by omega)
                have HP := Lib.hid (hN.out.put (k := 0) (by omega) (show b < 40 by omega) 1)
                have HTB : Hid (putT (tabTo d 0 b) 0 b 1 = tabTo d 0 (b + 1)) := Lib.hid (by rw [← tabTo_put, cnt, HCB.out]; rfl)
                rw [HTB.out] at HP
                rw [show 0 * 40 + b = b by omega] at f0 c0 HP
                clear HTB
                go_wp2_with fail
                exact ⟨⟨b + 1, by omega, by go_num, HP⟩, by simp [intOf]; omega⟩
              · obtain ⟨kp, hkp⟩ : ∃ kp, k = kp + 1 := ⟨k - 1, by omega⟩
                have HKP := Lib.hid hkp
                have hk1 : IntKind.i64.wrap ((k : Int) - 1) = (kp : Int) := by rw [IntWalk.i64_in _ (by omega)]; omega
                have hk0 : ((k : Int) == 0) = false := by rw [beq_eq_false_iff_ne]; omega
                have hkpm : kp < ml := by omega
                have HCS : Hid (cnt d k b = cntP d kp b b) := Lib.hid (by have h := HCB.out; rw [HKP.out] at h ⊢; rw [cnt_succ, h]; rfl)
                clear hkz hkp
                go_wp2_with fail
                obtain ⟨wp, rfl⟩ : ∃ wp : World, wp = wr := ⟨_, rfl⟩
                go_loopw [45] (fun kv wr => ∃ a : Nat, a ≤ b ∧ kv = .int .i64 a ∧ Hid (AhM w q g rl fl ml rc fc mc (some ⟨rb, ro, none⟩) fa (some ⟨mb, mo, none⟩) (putT (tabTo d k b) k b (cntP d kp b a)) wr)) (fun kv _ => b - (intOf kv).toNat)
                case atStart => exact ⟨0, Nat.zero_le _, by go_num, by show Hid (AhM w q g rl fl ml rc fc mc _ fa _ (putT (tabTo d k b) k b 0) _); rw [tabTo_zero]; exact hN⟩
                case round =>
                  clear hN
                  obtain ⟨a, hab, rfl, hP⟩ := hrel
                  by_cases hla : a < b
                  · have g2 : decide ((a : Int) < b) = true := decide_eq_true (by omega)
                    have a40 : (a : Int) < 40 := by omega
                    have hkkp := HKP.out
                    have kk : (kp : Int) < ml := by omega
                    have km : kp < ml := by omega
                    have HTA : Hid (putT (tabTo d k b) k b (cntP d kp b a) kp a = cnt d kp a) := Lib.hid (by
                      rw [putT, if_neg (by omega), tabTo, if_pos (.inl ⟨by omega, by have := HL.out.1; omega⟩)])
                    have ca := hP.out.ct.c kp a (by omega) (by omega)
                    rw [HTA.out] at ca
                    have bn := cnt_le d kp a
                    have bp : 2 ^ a ≤ 2 ^ 39 := Nat.pow_le_pow_right (by omega) (by omega)
                    obtain ⟨nn, hnn⟩ : ∃ z, z = cnt d kp a := ⟨_, rfl⟩
                    rw [← hnn] at ca bn
                    have HNN := Lib.hid hnn
                    obtain ⟨ft, hft⟩ : ∃ z, z = fitsB d.r a b (d.f.getD kp (0, 0)) := ⟨_, rfl⟩
                    have HPS : Hid (cntP d kp b (a + 1) = cntP d kp b a + (if ft = true then nn else 0)) := Lib.hid (by rw [cntP, ← hnn, ← hft])
                    have HFT := Lib.hid hft
                    clear hnn hft HTA hkkp
                    by_cases hz : nn = 0
                    · have g3 : decide ((0 : Int) < nn) = false := by simp; omega
                      have g3n : ¬ 0 < nn := by omega
                      have HPE : Hid (cntP d kp b (a + 1) = cntP d kp b a) := Lib.hid (by rw [HPS.out, hz]; split <;> rfl)
                      clear hz bn bp
                      go_wp2_with fail
                      have hC : True := trivial
                      have HD2 := Lib.hid (hP.out.grow m1 (Below.refl _ wr).drew)
                      refine Lim.regC' (fun _ => True) [] #[false, false, false, false, false, false, false, false, false, false, false, false, false, false] (by kernel_rfl) rfl ?_
                      refine Lim.stepR 0 (fun _ => trivial) rfl (by kernel_rfl) (fun _ _ _ _ h => h) hC rfl ?_; apply Exists.intro; refine ⟨?_, ?_⟩
                      · rintro w -; go_simp; try with_reducible rfl
                      simp only [Act.put, List.setIfInBounds_toArray, List.set_cons_succ, List.set_cons_zero]
                      refine Lim.stepR 1 (fun _ => trivial) rfl (by kernel_rfl) (fun _ _ _ _ h => h) hC rfl ?_; apply Exists.intro; refine ⟨?_, ?_⟩
                      · rintro w -; go_simp; try with_reducible rfl
                      simp only [Act.put, List.setIfInBounds_toArray, List.set_cons_succ, List.set_cons_zero]
                      refine Lim.stepR 2 (fun _ => trivial) rfl (by kernel_rfl) (fun _ _ _ _ h => h) hC rfl ?_; apply Exists.intro; refine ⟨?_, ?_⟩
                      · rintro w -; go_simp; try with_reducible rfl
                      simp only [Act.put, List.setIfInBounds_toArray, List.set_cons_succ, List.set_cons_zero]
                      refine Lim.stepS 3 (fun _ => trivial) rfl (by kernel_rfl) (fun _ _ _ _ h => h) hC rfl ?_
                      simp only [Act.put, List.setIfInBounds_toArray, List.set_cons_succ, List.set_cons_zero]
                      refine Lim.stepS 4 (fun _ => trivial) rfl (by kernel_rfl) (fun _ _ _ _ h => h) hC rfl ?_
                      simp only [Act.put, List.setIfInBounds_toArray, List.set_cons_succ, List.set_cons_zero]
                      refine Lim.stepS 5 (fun _ => trivial) rfl (by kernel_rfl) (fun _ _ _ _ h => h) hC rfl ?_
                      simp only [Act.put, List.setIfInBounds_toArray, List.set_cons_succ, List.set_cons_zero]
                      refine Lim.stepS 6 (fun _ => trivial) rfl (by kernel_rfl) (fun _ _ _ _ h => h) hC rfl ?_
                      simp only [Act.put, List.setIfInBounds_toArray, List.set_cons_succ, List.set_cons_zero]
                      refine Lim.stepS 7 (fun _ => trivial) rfl (by kernel_rfl) (fun _ _ _ _ h => h) hC rfl ?_
                      simp only [Act.put, List.setIfInBounds_toArray, List.set_cons_succ, List.set_cons_zero]
                      refine Lim.stepS 8 (fun _ => trivial) rfl (by kernel_rfl) (fun _ _ _ _ h => h) hC rfl ?_
                      simp only [Act.put, List.setIfInBounds_toArray, List.set_cons_succ, List.set_cons_zero]
                      refine Lim.stepS 9 (fun _ => trivial) rfl (by kernel_rfl) (fun _ _ _ _ h => h) hC rfl ?_
                      simp only [Act.put, List.setIfInBounds_toArray, List.set_cons_succ, List.set_cons_zero]
                      refine Lim.stepS 10 (fun _ => trivial) rfl (by kernel_rfl) (fun _ _ _ _ h => h) hC rfl ?_
                      simp only [Act.put, List.setIfInBounds_toArray, List.set_cons_succ, List.set_cons_zero]
                      refine Lim.stepS 11 (fun _ => trivial) rfl (by kernel_rfl) (fun _ _ _ _ h => h) hC rfl ?_
                      simp only [Act.put, List.setIfInBounds_toArray, List.set_cons_succ, List.set_cons_zero]
                      refine Lim.stepS 12 (fun _ => trivial) rfl (by kernel_rfl) (fun _ _ _ _ h => h) hC rfl ?_
                      simp only [Act.put, List.setIfInBounds_toArray, List.set_cons_succ, List.set_cons_zero]
                      refine Lim.stepR 13 (fun _ => trivial) rfl (by kernel_rfl) (fun _ _ _ _ h => h) hC rfl ?_; apply Exists.intro; refine ⟨?_, ?_⟩
                      · rintro w -; go_simp; try with_reducible rfl
                      simp only [Act.put, List.setIfInBounds_toArray, List.set_cons_succ, List.set_cons_zero]
                      refine Lim.stepD (by kernel_rfl) ?_
                      go_wp2
                      go_roundw
                      case rel => exact ⟨a + 1, by omega, by go_num, by rw [HPE.out]; exact HD2⟩
                      case measure => simp [intOf]; omega
                    · have g3 : decide ((0 : Int) < nn) = true := by simp; omega
                      have g3n : 0 < nn := by omega
                      obtain ⟨glo, hglo⟩ : ∃ z, z = (d.f.getD kp (0, 0)).1 := ⟨_, rfl⟩
                      obtain ⟨ghi, hghi⟩ : ∃ z, z = (d.f.getD kp (0, 0)).2 := ⟨_, rfl⟩
                      have hkf : kp < d.f.length := by have := HL.out.2.1; have := HKP.out; omega
                      have hG : 0 ≤ glo ∧ glo ≤ ghi ∧ ghi ≤ 1000000 := by
                        have h := HD.out.fr _ (List.getElem_mem hkf)
                        rw [hglo, hghi, List.getD_eq_getElem?_getD, List.getElem?_eq_getElem hkf]
                        exact h
                      obtain ⟨fb, fo, rfl, hfc⟩ : ∃ fb fo, fa = some ⟨fb, fo, none⟩ ∧ Hid (∀ W, Below w.heap.size w W → W.cell? ⟨fb, fo + kp * 2, none⟩ = some (.int .i64 glo) ∧ W.cell? ⟨fb, fo + kp * 2 + 1, none⟩ = some (.int .i64 ghi)) := by
                        obtain ⟨a2, c2, e2, h2⟩ := HR.out.2.2.1
                        cases e2
                        obtain ⟨fb, fo, rfl, h3, h4⟩ := h2 (by intro h; have h5 := congrArg List.length h; rw [spans_length, List.length_nil] at h5; omega)
                        refine ⟨fb, fo, rfl, Lib.hid fun W hW => ?_⟩
                        have hb := hW.mono HR.out.1
                        have h5 := h4 (kp * 2) _ (spans_lo d.f kp hkf)
                        have h6 := h4 (kp * 2 + 1) _ (spans_hi d.f kp hkf)
                        rw [hglo, hghi, List.getD_eq_getElem?_getD, List.getElem?_eq_getElem hkf]
                        rw [← Nat.add_assoc] at h6
                        exact ⟨cell_below hb h5 h3, cell_below hb h6 h3⟩
                      have HFF : Hid (∀ W, Below w.heap.size w W → Calls Try.prog 81 #[.agg #[.slice (some ⟨rb, ro, none⟩) rl rc], .int .i64 a, .int .i64 b, .agg #[.int .i64 glo, .int .i64 ghi]] W fun e w' => e = .returned (.bool ft) ∧ Below W.heap.size W w') := Lib.hid fun W hW => by
                        have h := fits_any (a := a) (b := b) (glo := glo) (ghi := ghi) (HR.out.2.1.below (hW.mono HR.out.1)) (Nat.le_trans HR.out.1 hW.size) HL.out.1 hrc (by omega) HD.out.rr hla (by omega) ⟨hG.2.1, by omega, by omega⟩
                        rw [HFT.out, show d.f.getD kp (0, 0) = (glo, ghi) from by rw [hglo, hghi]]
                        exact h
                      have kf : (kp : Int) < fl := by have := HKP.out; omega
                      have d0 := hP.out.k0
                      have d1 := hP.out.k1
                      obtain ⟨f1, f2⟩ := hfc.out wr hP.out.ct.be
                      have HNZ := Lib.hid hz
                      clear hglo hghi hG hkf hz
                      go_wp2_with fail
                      have HD2 := Lib.hid (hP.out.grow m1 (Below.refl _ wr).drew)
                      have hC : (fun w => w.cell? ⟨q, 0, none⟩ = some (.slice (some ⟨rb, ro, none⟩) rl rc) ∧ w.cell? ⟨q + 1, 0, none⟩ = some (.slice (some ⟨fb, fo, none⟩) fl fc) ∧ w.cell? ⟨fb, fo + kp * 2, none⟩ = some (.int .i64 glo) ∧ w.cell? ⟨fb, fo + kp * 2 + 1, none⟩ = some (.int .i64 ghi)) wr.drew := ⟨d0, d1, f1, f2⟩
                      generalize hW0 : wr.drew = w9 at hC HD2
                      have H9 := Lib.hid (HFF.out w9 HD2.out.ct.be)
                      refine Lim.regC' (fun w => w.cell? ⟨q, 0, none⟩ = some (.slice (some ⟨rb, ro, none⟩) rl rc) ∧ w.cell? ⟨q + 1, 0, none⟩ = some (.slice (some ⟨fb, fo, none⟩) fl fc) ∧ w.cell? ⟨fb, fo + kp * 2, none⟩ = some (.int .i64 glo) ∧ w.cell? ⟨fb, fo + kp * 2 + 1, none⟩ = some (.int .i64 ghi)) [] #[false, false, false, false, false, false, false, false, false, false, false, false, false, false] (by kernel_rfl) rfl ?_
                      rw [hW0]
                      clear hW0
                      refine Lim.stepR 0 (fun _ => trivial) rfl (by kernel_rfl) (fun _ _ _ _ h => h) hC rfl ?_; apply Exists.intro; refine ⟨?_, ?_⟩
                      · rintro w ⟨r1, r2, r3, r4⟩; go_simp; try with_reducible rfl
                      simp only [Act.put, List.setIfInBounds_toArray, List.set_cons_succ, List.set_cons_zero]
                      refine Lim.stepR 1 (fun _ => trivial) rfl (by kernel_rfl) (fun _ _ _ _ h => h) hC rfl ?_; apply Exists.intro; refine ⟨?_, ?_⟩
                      · rintro w ⟨r1, r2, r3, r4⟩; go_simp; try with_reducible rfl
                      simp only [Act.put, List.setIfInBounds_toArray, List.set_cons_succ, List.set_cons_zero]
                      refine Lim.stepR 2 (fun _ => trivial) rfl (by kernel_rfl) (fun _ _ _ _ h => h) hC rfl ?_; apply Exists.intro; refine ⟨?_, ?_⟩
                      · rintro w ⟨r1, r2, r3, r4⟩; go_simp; try with_reducible rfl
                      simp only [Act.put, List.setIfInBounds_toArray, List.set_cons_succ, List.set_cons_zero]
                      refine Lim.stepR 3 (fun _ => trivial) rfl (by kernel_rfl) (fun _ _ _ _ h => h) hC rfl ?_; apply Exists.intro; refine ⟨?_, ?_⟩
                      · rintro w ⟨r1, r2, r3, r4⟩; go_simp; try with_reducible rfl
                      simp only [Act.put, List.setIfInBounds_toArray, List.set_cons_succ, List.set_cons_zero]
                      refine Lim.stepR 4 (fun _ => trivial) rfl (by kernel_rfl) (fun _ _ _ _ h => h) hC rfl ?_; apply Exists.intro; refine ⟨?_, ?_⟩
                      · rintro w ⟨r1, r2, r3, r4⟩; go_simp; try with_reducible rfl
                      simp only [Act.put, List.setIfInBounds_toArray, List.set_cons_succ, List.set_cons_zero]
                      refine Lim.stepR 5 (fun _ => trivial) rfl (by kernel_rfl) (fun _ _ _ _ h => h) hC rfl ?_; apply Exists.intro; refine ⟨?_, ?_⟩
                      · rintro w ⟨r1, r2, r3, r4⟩; go_simp; try with_reducible rfl
                      simp only [Act.put, List.setIfInBounds_toArray, List.set_cons_succ, List.set_cons_zero]
                      refine Lim.stepR 6 (fun _ => trivial) rfl (by kernel_rfl) (fun _ _ _ _ h => h) hC rfl ?_; apply Exists.intro; refine ⟨?_, ?_⟩
                      · rintro w ⟨r1, r2, r3, r4⟩; go_simp; try with_reducible rfl
                      simp only [Act.put, List.setIfInBounds_toArray, List.set_cons_succ, List.set_cons_zero]
                      refine Lim.stepR 7 (fun _ => trivial) rfl (by kernel_rfl) (fun _ _ _ _ h => h) hC rfl ?_; apply Exists.intro; refine ⟨?_, ?_⟩
                      · rintro w ⟨r1, r2, r3, r4⟩; go_simp; try with_reducible rfl
                      simp only [Act.put, List.setIfInBounds_toArray, List.set_cons_succ, List.set_cons_zero]
                      refine Lim.stepR 8 (fun _ => trivial) rfl (by kernel_rfl) (fun _ _ _ _ h => h) hC rfl ?_; apply Exists.intro; refine ⟨?_, ?_⟩
                      · rintro w ⟨r1, r2, r3, r4⟩; go_simp; try with_reducible rfl
                      simp only [Act.put, List.setIfInBounds_toArray, List.set_cons_succ, List.set_cons_zero]
                      refine Lim.stepR 9 (fun _ => trivial) rfl (by kernel_rfl) (fun _ _ _ _ h => h) hC rfl ?_; apply Exists.intro; refine ⟨?_, ?_⟩
                      · rintro w ⟨r1, r2, r3, r4⟩; go_simp; try with_reducible rfl
                      simp only [Act.put, List.setIfInBounds_toArray, List.set_cons_succ, List.set_cons_zero]
                      refine Lim.stepR 10 (fun _ => trivial) rfl (by kernel_rfl) (fun _ _ _ _ h => h) hC rfl ?_; apply Exists.intro; refine ⟨?_, ?_⟩
                      · rintro w ⟨r1, r2, r3, r4⟩; go_simp; try with_reducible rfl
                      simp only [Act.put, List.setIfInBounds_toArray, List.set_cons_succ, List.set_cons_zero]
                      refine Lim.stepR 11 (fun _ => trivial) rfl (by kernel_rfl) (fun _ _ _ _ h => h) hC rfl ?_; apply Exists.intro; refine ⟨?_, ?_⟩
                      · rintro w ⟨r1, r2, r3, r4⟩; go_simp; try with_reducible rfl
                      simp only [Act.put, List.setIfInBounds_toArray, List.set_cons_succ, List.set_cons_zero]
                      refine Lim.stepE 12 (fun _ => trivial) rfl (by kernel_rfl) rfl (fun K hK => ?_)   -- E call
                      go_simp
                      refine ⟨rfl, (callsIn_wide.2 H9.out).mono ?_⟩
                      rintro e w3 ⟨rfl, hb3⟩
                      have hC2 : (fun w => w.cell? ⟨q, 0, none⟩ = some (.slice (some ⟨rb, ro, none⟩) rl rc) ∧ w.cell? ⟨q + 1, 0, none⟩ = some (.slice (some ⟨fb, fo, none⟩) fl fc) ∧ w.cell? ⟨fb, fo + kp * 2, none⟩ = some (.int .i64 glo) ∧ w.cell? ⟨fb, fo + kp * 2 + 1, none⟩ = some (.int .i64 ghi)) w3 := ⟨hb3.on hC.1, hb3.on hC.2.1, hb3.on hC.2.2.1, hb3.on hC.2.2.2⟩
                      have HD3 := Lib.hid (HD2.out.grow m1 hb3)
                      clear hb3
                      refine hK _ _ hC2 ?_
                      simp only [Act.put, List.setIfInBounds_toArray, List.set_cons_succ, List.set_cons_zero]
                      refine Lim.stepR 13 (fun _ => trivial) rfl (by kernel_rfl) (fun _ _ _ _ h => h) hC2 rfl ?_; apply Exists.intro; refine ⟨?_, ?_⟩
                      · rintro w ⟨r1, r2, r3, r4⟩; go_simp; try with_reducible rfl
                      simp only [Act.put, List.setIfInBounds_toArray, List.set_cons_succ, List.set_cons_zero]
                      refine Lim.stepD (by kernel_rfl) ?_
                      clear hC hC2 d0 d1 f1 f2 H9 HFF HD2
                      cases ft with
                      | false =>
                        have HPE : Hid (cntP d kp b (a + 1) = cntP d kp b a) := Lib.hid (by rw [HPS.out]; rfl)
                        go_wp2
                        go_roundw
                        case rel => exact ⟨a + 1, by omega, by go_num, by rw [HPE.out]; exact HD3⟩
                        case measure => simp [intOf]; omega
                      | true =>
                        have HPE : Hid (cntP d kp b (a + 1) = cntP d kp b a + nn) := Lib.hid (by rw [HPS.out]; rfl)
                        go_wp2_with fail
                        have HD4 := Lib.hid (HD3.out.grow m1 (Below.refl _ w3).drew)
                        have cb := HD4.out.ct.c k b (by omega) (by omega)
                        rw [putT, if_pos ⟨rfl, rfl⟩] at cb
                        have bs := cntP_lt d kp b (a + 1)
                        have bp2 : 2 ^ (a + 1) ≤ 2 ^ 39 := Nat.pow_le_pow_right (by omega) (by omega)
                        rw [HPE.out] at bs
                        obtain ⟨cp, hcp⟩ : ∃ z, z = cntP d kp b a := ⟨_, rfl⟩
                        rw [← hcp] at cb bs
                        obtain ⟨sm, hsm⟩ : ∃ z, z = cp + nn := ⟨_, rfl⟩
                        have hwa : IntKind.i64.wrap ((cp : Int) + nn) = (sm : Int) := by rw [IntWalk.i64_in _ (by omega)]; omega
                        have fz := HD4.out.ct.f (k * 40 + b)
                        have HP5 : Hid (AhM w q g rl fl ml rc fc mc (some ⟨rb, ro, none⟩) (some ⟨fb, fo, none⟩) (some ⟨mb, mo, none⟩) (putT (tabTo d k b) k b (cntP d kp b (a + 1))) (w3.drew.setCell ⟨g, k * 40 + b, none⟩ (.int .i64 (sm : Int)))) := Lib.hid (by
                          have h := HD4.out.put (k := k) (b := b) (by omega) (by omega) sm
                          rw [putT_putT] at h
                          rw [HPE.out, ← hcp, ← hsm]
                          exact h)
                        have hC : (fun w => w.cell? ⟨g, k * 40 + b, none⟩ = some (.int .i64 cp)) w3.drew := cb
                        generalize hW0 : w3.drew = w10 at hC fz HP5
                        clear hcp bs bp2 HD4 cb hsm
                        refine Lim.regC' (fun w => w.cell? ⟨g, k * 40 + b, none⟩ = some (.int .i64 cp)) [10] #[false, false, false, false, false, false, false, false, false, false, false] (by kernel_rfl) rfl ?_
                        rw [hW0]
                        clear hW0
                        refine Lim.stepR 0 (fun _ => trivial) rfl (by kernel_rfl) (fun _ _ _ _ h => h) hC rfl ?_; apply Exists.intro; refine ⟨?_, ?_⟩
                        · rintro w r1; go_simp; try with_reducible rfl
                        simp only [Act.put, List.setIfInBounds_toArray, List.set_cons_succ, List.set_cons_zero]
                        refine Lim.stepR 1 (fun _ => trivial) rfl (by kernel_rfl) (fun _ _ _ _ h => h) hC rfl ?_; apply Exists.intro; refine ⟨?_, ?_⟩
                        · rintro w r1; go_simp; try with_reducible rfl
                        simp only [Act.put, List.setIfInBounds_toArray, List.set_cons_succ, List.set_cons_zero]
                        refine Lim.stepR 2 (fun _ => trivial) rfl (by kernel_rfl) (fun _ _ _ _ h => h) hC rfl ?_; apply Exists.intro; refine ⟨?_, ?_⟩
                        · rintro w r1; go_simp; try with_reducible rfl
                        simp only [Act.put, List.setIfInBounds_toArray, List.set_cons_succ, List.set_cons_zero]
                        refine Lim.stepR 3 (fun _ => trivial) rfl (by kernel_rfl) (fun _ _ _ _ h => h) hC rfl ?_; apply Exists.intro; refine ⟨?_, ?_⟩
                        · rintro w r1; go_simp; try with_reducible rfl
                        simp only [Act.put, List.setIfInBounds_toArray, List.set_cons_succ, List.set_cons_zero]
                        refine Lim.stepR 4 (fun _ => trivial) rfl (by kernel_rfl) (fun _ _ _ _ h => h) hC rfl ?_; apply Exists.intro; refine ⟨?_, ?_⟩
                        · rintro w r1; go_simp; try with_reducible rfl
                        simp only [Act.put, List.setIfInBounds_toArray, List.set_cons_succ, List.set_cons_zero]
                        refine Lim.stepR 5 (fun _ => trivial) rfl (by kernel_rfl) (fun _ _ _ _ h => h) hC rfl ?_; apply Exists.intro; refine ⟨?_, ?_⟩
                        · rintro w r1; go_simp; try with_reducible rfl
                        simp only [Act.put, List.setIfInBounds_toArray, List.set_cons_succ, List.set_cons_zero]
                        refine Lim.stepR 6 (fun _ => trivial) rfl (by kernel_rfl) (fun _ _ _ _ h => h) hC rfl ?_; apply Exists.intro; refine ⟨?_, ?_⟩
                        · rintro w r1; go_simp; try with_reducible rfl
                        simp only [Act.put, List.setIfInBounds_toArray, List.set_cons_succ, List.set_cons_zero]
                        refine Lim.stepR 7 (fun _ => trivial) rfl (by kernel_rfl) (fun _ _ _ _ h => h) hC rfl ?_; apply Exists.intro; refine ⟨?_, ?_⟩
                        · rintro w r1; go_simp; try with_reducible rfl
                        simp only [Act.put, List.setIfInBounds_toArray, List.set_cons_succ, List.set_cons_zero]
                        refine Lim.stepR 8 (fun _ => trivial) rfl (by kernel_rfl) (fun _ _ _ _ h => h) hC rfl ?_; apply Exists.intro; refine ⟨?_, ?_⟩
                        · rintro w r1; go_simp; try with_reducible rfl
                        simp only [Act.put, List.setIfInBounds_toArray, List.set_cons_succ, List.set_cons_zero]
                        refine Lim.stepR 9 (fun _ => trivial) rfl (by kernel_rfl) (fun _ _ _ _ h => h) hC rfl ?_; apply Exists.intro; refine ⟨?_, ?_⟩
                        · rintro w r1; go_simp; try with_reducible rfl
                        simp only [Act.put, List.setIfInBounds_toArray, List.set_cons_succ, List.set_cons_zero]
                        refine Lim.stepX 10 (fun _ => trivial) rfl (by kernel_rfl) rfl rfl (fun K hK => ?_)
                        go_simp
                        refine hK _ _ ?_
                        simp only [Act.put, List.setIfInBounds_toArray, List.set_cons_succ, List.set_cons_zero]
                        refine Lim.segC (fun _ => True) [] ?_
                        refine Lim.stepD (by kernel_rfl) ?_
                        clear hC fz
                        generalize w10.setCell ⟨g, k * 40 + b, none⟩ (.int .i64 (sm : Int)) = w11 at HP5 ⊢
                        go_wp2
                        go_roundw
                        case rel => exact ⟨a + 1, by omega, by go_num, HP5⟩
                        case measure => simp [intOf]; omega
                  · obtain rfl : a = b := by omega
                    have g2 : decide ((a : Int) < a) = false := by simp
                    have HTB : Hid (putT (tabTo d k a) k a (cntP d kp a a) = tabTo d k (a + 1)) := Lib.hid (by rw [← HCS.out, tabTo_put])
                    rw [HTB.out] at hP
                    clear HTB
                    go_wp2
                    go_roundw
                    case rel => exact ⟨a + 1, by omega, by go_num, hP⟩
                    case measure => simp [intOf]; omega
            · have d3 : (nm != (b : Int)) = true := by simp [hn2]
              have HCB : Hid (cnt d k b = 0) := Lib.hid (by
                have hcb : canB d k b = false := by unfold canB; rw [← HNM.out, decide_eq_false hn1, decide_eq_false hn2]; rfl
                cases k with
                | zero => rw [cnt, hcb]; rfl
                | succ k => rw [cnt_succ, hcb]; rfl)
              have HTB : Hid (tabTo d k (b + 1) = tabTo d k b) := Lib.hid (by rw [← tabTo_put, HCB.out, tabTo_zero])
              clear hn1 hn2
              go_wp2
              go_roundw
              case rel => exact ⟨b + 1, by omega, by go_num, by rw [HTB.out]; exact hN⟩
              case measure => simp [intOf]; omega
        · obtain rfl : b = r1 := by omega
          have g1 : decide ((b : Int) < (b : Int)) = false := by simp
          have HTB : Hid (tabTo d k b = tabTo d (k + 1) 0) := Lib.hid (by rw [HR1.out, HL.out.1]; exact tabTo_row d k)
          rw [HTB.out] at hN
          clear HTB
          go_wp2
          go_roundw
          case rel => exact ⟨k + 1, by omega, by go_num, hN⟩
          case measure => simp [intOf]; omega
    · obtain rfl : k = ml := by omega
      have g1 : decide ((k : Int) < k) = false := by simp
      go_wp2
      go_ret
      exact ⟨g, rfl, hM.out.ct⟩
end Go.Proofs.Ytohjinbgbfggcaa
/-
  How many readings there are: the contract of all.
-/
namespace Go.Proofs.Ytohjinbgbfggcaa
open Go.RowKit Go.Shelf
open Lim

/-- one row of a table -/
def row40 (T : Nat → Nat) : List Value := (List.range 40).map fun y => Value.int .i64 (T y)
theorem row40_len (T : Nat → Nat) : (row40 T).length = 40 := by simp [row40]
theorem row40_at (T : Nat → Nat) {y : Nat} (h : y < 40) : (row40 T)[y]? = some (.int .i64 (T y)) := by simp [row40, h]
theorem idx_row (T : Nat → Nat) {k : Nat} (hk : k < 40) (w : World) : (Instr.index 119 (.agg (row40 T).toArray) (.int .i64 (k : Int))).run Try.prog w = .ok (.int .i64 (T k)) w := by
  have hw : IntKind.i64.wrap (k : Int) = (k : Int) := IntWalk.i64_in _ (by omega)
  have h2 := row40_at T hk
  simp [Instr.index, asIntOf, run_underlying Try.underlying119, part, hw, hk, Try.isAgg3, Try.sizeOf3, h2, Result.andThen]
def sumT (T : Nat → Nat) (k : Nat) : Nat := ((List.range k).map T).sum
theorem sumT_succ (T : Nat → Nat) (k : Nat) : sumT T (k + 1) = sumT T k + T k := by unfold sumT; rw [List.range_succ, List.map_append, List.sum_append]; simp
theorem sumT_total (d : Rd) (hr : d.r.length ≤ 39) (hm : 1 ≤ d.m.length) : sumT (tabTo d d.m.length 0 (d.m.length - 1)) 40 = total d := by
  have key : ∀ k, k ≤ 40 → sumT (tabTo d d.m.length 0 (d.m.length - 1)) k = sumT (cnt d (d.m.length - 1)) (min k (d.r.length + 1)) := by
    intro k
    induction k with
    | zero => intro _; simp [sumT]
    | succ k ih =>
      intro hk
      rw [sumT_succ, ih (by omega), tabTo]
      by_cases h : k ≤ d.r.length
      · rw [if_pos (.inl ⟨by omega, h⟩), show min (k + 1) (d.r.length + 1) = min k (d.r.length + 1) + 1 by omega, sumT_succ, show min k (d.r.length + 1) = k by omega]
      · rw [if_neg (by omega), show min (k + 1) (d.r.length + 1) = min k (d.r.length + 1) by omega]; rfl
  rw [key 40 (Nat.le_refl _), show min 40 (d.r.length + 1) = d.r.length + 1 by omega]; rfl
theorem sumT_lt (T : Nat → Nat) (h : ∀ y, T y ≤ 2 ^ y) (k : Nat) : sumT T k < 2 ^ k := sum_range_le _ h k
theorem tabTo_le (d : Rd) (k b x y : Nat) : tabTo d k b x y ≤ 2 ^ y := by
  unfold tabTo
  split
  · exact cnt_le d x y
  · exact Nat.zero_le _
set_option maxRecDepth 20000 in
set_option maxHeartbeats 2000000 in
theorem all_any {B rc : Nat} {ra : Option Addr} {d : Rd} {fv mv : Value} {w : World} (hd : RdOk d) (hB : B ≤ w.heap.size) (hr : RS B w (.slice ra d.r.length rc) d.r.length (spans d.r)) (hrc : d.r.length ≤ rc) (hf : RS B w fv d.f.length (spans d.f)) (hm : RS B w mv d.m.length (ints d.m)) :
    Calls Try.prog 62 #[.agg #[.slice ra d.r.length rc], .agg #[fv, mv]] w fun e w' => e = .returned (.int .i64 (total d)) ∧ Below w.heap.size w w' := by
  have HAD : Hid (∀ W, Below w.heap.size w W → Calls Try.prog 60 #[.agg #[.slice ra d.r.length rc], .agg #[fv, mv]] W fun e w' => ∃ g, e = .returned (.slice (some ⟨g, 0, none⟩) d.m.length d.m.length) ∧ CtM W g d.m.length (tabTo d d.m.length 0) w') := Lib.hid fun W hW =>
    rahead_any hd (Nat.le_trans hB hW.size) (hr.below (hW.mono hB)) hrc (hf.below (hW.mono hB)) (hm.below (hW.mono hB))
  have HD := Lib.hid hd
  obtain ⟨fa, fc, rfl, -⟩ := hf
  obtain ⟨ma, mc, rfl, -⟩ := hm
  have m40 := hd.m40
  have m1 := hd.m1
  obtain ⟨rl, hrl⟩ : ∃ x, x = d.r.length := ⟨_, rfl⟩
  obtain ⟨fl, hfl⟩ : ∃ x, x = d.f.length := ⟨_, rfl⟩
  obtain ⟨ml, hml⟩ : ∃ x, x = d.m.length := ⟨_, rfl⟩
  have HL := Lib.hid (And.intro hrl (And.intro hfl hml))
  rw [← hrl, ← hfl, ← hml] at HAD
  rw [← hml] at m40 m1
  rw [← hrl, ← hfl, ← hml]
  have HM : Hid (Below w.heap.size w ((w.alloc (.cells #[.slice ra rl rc] 87)).alloc (.cells #[.slice fa fl fc, .slice ma ml mc] 90))) := Lib.hid (((Below.refl _ w).alloc (Nat.le_refl _) _).alloc (by simp) _)
  obtain ⟨tt, htt⟩ : ∃ z, z = total d := ⟨_, rfl⟩
  rw [← htt]
  have HTT : Hid (sumT (tabTo d ml 0 (ml - 1)) 40 = tt) := Lib.hid (by rw [htt, hml]; exact sumT_total d hd.r39 hd.m1)
  clear hB hrl hfl hml hr hd htt
  go_enter Try.func62, Try.ntmps62
  go_wp2_with fail
  refine (HAD.out _ HM.out).mono ?_
  rintro e w2 ⟨g, rfl, hct⟩
  obtain ⟨z, hz⟩ : ∃ z, z = ml - 1 := ⟨_, rfl⟩
  have hwz : IntKind.i64.wrap ((ml : Int) - 1) = (z : Int) := by rw [IntWalk.i64_in _ (by omega)]; omega
  have hzm : (z : Int) < ml := by omega
  obtain ⟨T, hT⟩ : ∃ T, T = tabTo d ml 0 z := ⟨_, rfl⟩
  have hrng : w2.rangeAt g (z * 40) (row40 T) := fun j v hj => by
    have hj40 : j < 40 := by have := (List.getElem?_eq_some_iff.1 hj).1; rw [row40_len] at this; exact this
    rw [row40_at T hj40] at hj
    rw [← hj, hT]
    have h := hct.c z j (by omega) hj40
    exact h
  have hsz : (Try.prog.info? 119).map (·.size) = some (row40 T).length := by rw [row40_len]; kernel_rfl
  have HB2 : Hid (Below w.heap.size w w2) := Lib.hid (HM.out.trans (hct.be.mono HM.out.size))
  have HTS : Hid (sumT T 40 = tt ∧ ∀ y, T y ≤ 2 ^ y) := Lib.hid ⟨by rw [hT, hz]; exact HTT.out, fun y => by rw [hT]; exact tabTo_le d ml 0 z y⟩
  clear hz hT hct HAD
  go_wp2_with (refine wpList_load_mid rfl 119 _ rfl g (z * 40) rfl (row40 T) _ hrng Try.underlying119 rfl hsz ?_)
  clear hrng
  go_loopw [6, 18] (fun sv kv wr => ∃ k : Nat, k ≤ 40 ∧ kv = .int .i64 k ∧ sv = .int .i64 (sumT T k) ∧ Hid (Below w.heap.size w wr)) (fun _ kv _ => 40 - (intOf kv).toNat)
  case atStart => exact ⟨0, Nat.zero_le _, by go_num, rfl, HB2⟩
  case round =>
    obtain ⟨k, hk, rfl, rfl, hB⟩ := hrel
    by_cases hlt : k < 40
    · have g1 : decide ((k : Int) < 40) = true := decide_eq_true (by omega)
      have hat := idx_row T hlt wr
      have b1 := sumT_lt T HTS.out.2 (k + 1)
      have b2 : 2 ^ (k + 1) ≤ 2 ^ 40 := Nat.pow_le_pow_right (by omega) (by omega)
      rw [sumT_succ] at b1
      have HS := Lib.hid (sumT_succ T k)
      obtain ⟨s0, hs0⟩ : ∃ z, z = sumT T k := ⟨_, rfl⟩
      obtain ⟨tk, htk⟩ : ∃ z, z = T k := ⟨_, rfl⟩
      rw [← hs0, ← htk] at b1 HS
      rw [← htk] at hat
      rw [← hs0]
      obtain ⟨sm, hsm⟩ : ∃ z, z = s0 + tk := ⟨_, rfl⟩
      have hwa : IntKind.i64.wrap ((s0 : Int) + tk) = (sm : Int) := by rw [IntWalk.i64_in _ (by omega)]; omega
      have HSM : Hid (sumT T (k + 1) = sm) := Lib.hid (by rw [HS.out, hsm])
      clear hs0 htk hsm b1 b2 HS
      go_wp2_with fail
      exact ⟨⟨k + 1, by omega, by go_num, by rw [HSM.out], hB⟩, by simp [intOf]; omega⟩
    · obtain rfl : k = 40 := by omega
      rw [HTS.out.1]
      go_wp2
      go_ret
      exact ⟨rfl, hB.out⟩
end Go.Proofs.Ytohjinbgbfggcaa
/-
  How many readings there are, or the error: the contract of Readings.
-/
namespace Go.Proofs.Ytohjinbgbfggcaa
open Go.RowKit Go.Shelf
open Lim

theorem asked_ok {d : Rd} (h : d.err = 0) : RdOk d := by
  unfold Rd.err at h
  split at h
  · cases h
  split at h
  · cases h
  rename_i h1 h2
  have c1 : inR (d.r.length : Int) 1 39 = true := by
    cases e : inR (d.r.length : Int) 1 39 with
    | true => rfl
    | false => exact absurd (.inl e) h1
  have c2 : inR (d.m.length : Int) 1 40 = true := by
    cases e : inR (d.m.length : Int) 1 40 with
    | true => rfl
    | false => exact absurd (.inr (.inl e)) h1
  have c3 : (d.f.length : Int) = (d.m.length : Int) - 1 := by
    rcases Decidable.em ((d.f.length : Int) = (d.m.length : Int) - 1) with e | e
    · exact e
    · exact absurd (.inr (.inr e)) h1
  have sp : ∀ l : List (Int × Int), Rd.wrongS l = false → SpR l := fun l hl s hs => by
    have h3 : rightS s 1 20000 = true := by
      cases e : rightS s 1 20000 with
      | true => rfl
      | false =>
        have : Rd.wrongS l = true := List.any_eq_true.2 ⟨s, hs, by rw [e]; rfl⟩
        rw [hl] at this; cases this
    have h4 := rightS_iff.1 h3
    omega
  have r1 := inR_iff.1 c1
  have r2 := inR_iff.1 c2
  refine ⟨sp _ ?_, sp _ ?_, by omega, by omega, by omega, by omega, by omega⟩
  · cases e : Rd.wrongS d.r with
    | false => rfl
    | true => exact absurd (.inl e) h2
  · cases e : Rd.wrongS d.f with
    | false => rfl
    | true => exact absurd (.inr (.inl e)) h2
/-- what Readings answers -/
def readAns (d : Rd) : Value := if d.err ≠ 0 then .tuple #[.int .i64 0, .int .i64 d.err] else .tuple #[.int .i64 (total d), .int .i64 0]
set_option maxRecDepth 20000 in
set_option maxHeartbeats 2000000 in
theorem Readings_any {B : Nat} {d : Rd} {rv fv mv : Value} {w : World} (hB : B ≤ w.heap.size) (hr : RS B w rv d.r.length (spans d.r)) (hcap : ∀ a c, rv = .slice a d.r.length c → d.r.length ≤ c) (hf : RS B w fv d.f.length (spans d.f)) (hm : RS B w mv d.m.length (ints d.m)) :
    Calls Try.prog 36 #[.agg #[rv], .agg #[fv, mv]] w fun e w' => e = .returned (readAns d) ∧ Below w.heap.size w w' := by
  have HR := Lib.hid (And.intro hB (And.intro hr (And.intro hf hm)))
  obtain ⟨ra, rc, rfl, -⟩ := hr
  have hrc := hcap _ _ rfl
  obtain ⟨fa, fc, rfl, -⟩ := hf
  obtain ⟨ma, mc, rfl, -⟩ := hm
  obtain ⟨rl, hrl⟩ : ∃ x, x = d.r.length := ⟨_, rfl⟩
  obtain ⟨fl, hfl⟩ : ∃ x, x = d.f.length := ⟨_, rfl⟩
  obtain ⟨ml, hml⟩ : ∃ x, x = d.m.length := ⟨_, rfl⟩
  have HL := Lib.hid (And.intro hrl (And.intro hfl hml))
  have HRC := Lib.hid hrc
  have HAK : Hid (∀ W, Below w.heap.size w W → Calls Try.prog 59 #[.agg #[.slice ra rl rc], .agg #[.slice fa fl fc, .slice ma ml mc]] W fun e w' => e = .returned (.int .i64 d.err) ∧ Below W.heap.size W w') := Lib.hid fun W hW => by
    rw [hrl, hfl, hml]
    exact asked_any (Nat.le_trans HR.out.1 hW.size) (HR.out.2.1.below (hW.mono HR.out.1)) (HR.out.2.2.1.below (hW.mono HR.out.1)) (HR.out.2.2.2.below (hW.mono HR.out.1))
  have HAL : Hid (d.err = 0 → ∀ W, Below w.heap.size w W → Calls Try.prog 62 #[.agg #[.slice ra rl rc], .agg #[.slice fa fl fc, .slice ma ml mc]] W fun e w' => e = .returned (.int .i64 (total d)) ∧ Below W.heap.size W w') := Lib.hid fun he W hW => by
    rw [hrl, hfl, hml]
    exact all_any (asked_ok he) (Nat.le_trans HR.out.1 hW.size) (HR.out.2.1.below (hW.mono HR.out.1)) HRC.out (HR.out.2.2.1.below (hW.mono HR.out.1)) (HR.out.2.2.2.below (hW.mono HR.out.1))
  rw [← hrl, ← hfl, ← hml] at HR
  rw [← hrl, ← hfl, ← hml]
  have HM : Hid (Below w.heap.size w ((w.alloc (.cells #[.slice ra rl rc] 87)).alloc (.cells #[.slice fa fl fc, .slice ma ml mc] 90)) ∧ ((w.alloc (.cells #[.slice ra rl rc] 87)).alloc (.cells #[.slice fa fl fc, .slice ma ml mc] 90)).cell? ⟨w.heap.size, 0, none⟩ = some (.slice ra rl rc) ∧ ((w.alloc (.cells #[.slice ra rl rc] 87)).alloc (.cells #[.slice fa fl fc, .slice ma ml mc] 90)).cell? ⟨w.heap.size + 1, 0, none⟩ = some (.slice fa fl fc) ∧ ((w.alloc (.cells #[.slice ra rl rc] 87)).alloc (.cells #[.slice fa fl fc, .slice ma ml mc] 90)).cell? ⟨w.heap.size + 1, 1, none⟩ = some (.slice ma ml mc)) := Lib.hid (by
    refine ⟨((Below.refl _ w).alloc (Nat.le_refl _) _).alloc (by simp) _, ?_, ?_, ?_⟩ <;> simp [go_sem])
  obtain ⟨er, her⟩ : ∃ x, x = d.err := ⟨_, rfl⟩
  rw [← her] at HAK
  have HER := Lib.hid her
  clear hB hrl hfl hml her hcap hrc
  go_enter Try.func36, Try.ntmps36
  go_upto_region 1 with (fail)
  obtain ⟨q, hq⟩ : ∃ q, q = w.heap.size := ⟨_, rfl⟩
  have HQ := Lib.hid hq.symm
  rw [← hq] at HM
  simp only [← hq]
  clear hq
  generalize ((w.alloc (.cells #[.slice ra rl rc] 87)).alloc (.cells #[.slice fa fl fc, .slice ma ml mc] 90)) = w1 at HM ⊢
  obtain ⟨-, k0, k1, k2⟩ := HM.out
  have HW1 : Hid (Below w.heap.size w w1) := Lib.hid (by rw [HQ.out]; exact HM.out.1)
  clear HM
  go_wp2_with fail
  refine (HAK.out _ HW1.out).mono ?_
  rintro e w2 ⟨rfl, hb2⟩
  have m0 := hb2.on k0
  have m1 := hb2.on k1
  have m2 := hb2.on k2
  have HW2 : Hid (Below w.heap.size w w2) := Lib.hid (HW1.out.trans (hb2.mono HW1.out.size))
  clear hb2 k0 k1 k2 HAK
  by_cases he : er = 0
  · have d1 : (er != 0) = false := by simp [he]
    obtain ⟨tt, htt⟩ : ∃ z, z = total d := ⟨_, rfl⟩
    have HE : Hid (readAns d = .tuple #[.int .i64 tt, .int .i64 0]) := Lib.hid (by rw [readAns, if_neg (by rw [← HER.out]; simp [he]), htt])
    have H1 := Lib.hid (HAL.out (by rw [← HER.out]; exact he) w2 HW2.out)
    rw [← htt] at H1
    clear htt he
    go_wp2_with fail
    refine H1.out.mono ?_
    rintro e w3 ⟨rfl, hb3⟩
    have HW3 : Hid (Below w.heap.size w w3) := Lib.hid (HW2.out.trans (hb3.mono HW2.out.size))
    clear hb3
    go_wp2
    go_ret2
    exact ⟨by rw [HE.out]; rfl, HW3.out⟩
  · have d1 : (er != 0) = true := by simp [he]
    have HE : Hid (readAns d = .tuple #[.int .i64 0, .int .i64 er]) := Lib.hid (by rw [readAns, if_pos (by rw [← HER.out]; exact he), ← HER.out])
    clear he
    go_wp2
    go_ret2
    exact ⟨by rw [HE.out]; rfl, HW2.out⟩
end Go.Proofs.Ytohjinbgbfggcaa
