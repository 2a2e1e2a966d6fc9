/-
  Parts of the proof, in the order in which they build: EyF, EyG.
-/
import Derived.Deep.LoopGhost
import Derived.Test.YtkjcnkkmhkcddaaA48
import Derived.Test.YtkjcnkkmhkcddaaA24
import Derived.Test.YtkjcnkkmhkcddaaC1
import Derived.Test.YtkjcnkkmhkcddaaA51
set_option linter.unusedVariables false
set_option linter.unusedSimpArgs false
/-
  Maps in plain words: deed by deed, until nothing lies within anything.
-/
namespace Go.Proofs.Ytkjcnkkmhkcddaa
open Go Go.Proofs

/-- plot p is in an outermost region -/
def OutA (m : Mp) (p : Nat) : Prop := ∀ r, IsReg m r → Outer m r (r p)
/-- who has what in the end in m0 has it in m -/
def HulA (m0 m : Mp) : Prop := ∀ r0 r, IsReg m0 r0 → IsReg m r → ∀ p o, p < m0.n → Hull m0 r0 p o → Hull m r p o
/-- the plots that are in no outermost region -/
noncomputable def outN (m : Mp) : Nat → Nat
  | 0 => 0
  | n + 1 => outN m n + (open Classical in if OutA m n then 0 else 1)
section
variable {m m' m0 : Mp} {r r' : Nat → Nat} {k i : Nat}
theorem Outer.congr (e : ∀ p, p < m.n → r p = r' p) {t : Nat} (h : Outer m r t) : Outer m r' t := fun j hj => h j ((In.congr e).2 hj)
theorem Hull.congr (e : ∀ p, p < m.n → r p = r' p) {p : Nat} {o : Int} (hp : p < m.n) (h : Hull m r p o) : Hull m r' p o := by
  obtain ⟨q, h1, h2, h3, h4⟩ := h
  refine ⟨q, h1, by rw [← e q h1]; exact h2.congr e, ?_, h4⟩
  rw [← e q h1, ← e p hp]
  rcases h3 with h3 | h3
  · exact .inl h3
  · exact .inr ((In.congr e).1 h3)
theorem OutA.of (hr : IsReg m r) {p : Nat} (hp : p < m.n) (h : Outer m r (r p)) : OutA m p := fun r' hr' => by
  have e := hr.unique hr'
  rw [← e p hp]; exact h.congr e
theorem HulA.refl (m : Mp) : HulA m m := fun _ _ h0 h1 _ _ hp h => h.congr (h0.unique h1) hp
theorem HulA.of (hn : m'.n = m.n) (hr : IsReg m r) (hr' : IsReg m' r') (h : ∀ p o, p < m.n → Hull m r p o → Hull m' r' p o) : HulA m m' := fun r1 r2 h1 h2 p o hp hh => (h p o hp (hh.congr (h1.unique hr) hp)).congr (hr'.unique h2) (by omega)
theorem HulA.trans (hn : m.n = m0.n) (hr : ∃ r, IsReg m r) (h : HulA m0 m) (h' : HulA m m') : HulA m0 m' := by
  obtain ⟨r, hr⟩ := hr
  exact fun r0 r2 h0 h2 p o hp hh => h' r r2 hr h2 p o (by omega) (h r0 r h0 hr p o hp hh)
theorem outN_le (h : ∀ p, p < m.n → OutA m p → OutA m' p) : ∀ n, n ≤ m.n → outN m' n ≤ outN m n
  | 0, _ => Nat.le_refl _
  | n + 1, hn => by
    have h1 := outN_le h n (by omega)
    unfold outN
    by_cases h2 : OutA m n
    · rw [if_pos h2, if_pos (h n (by omega) h2)]; omega
    · rw [if_neg h2]; split <;> omega
theorem outN_lt (h : ∀ p, p < m.n → OutA m p → OutA m' p) {p : Nat} (h1 : ¬ OutA m p) (h2 : OutA m' p) : ∀ n, n ≤ m.n → p < n → outN m' n < outN m n
  | 0, _, hp => absurd hp (Nat.not_lt_zero _)
  | n + 1, hn, hp => by
    unfold outN
    by_cases e : p = n
    · subst e
      have := outN_le h p (by omega)
      rw [if_neg h1, if_pos h2]; omega
    · have := outN_lt h h1 h2 n (by omega) (by omega)
      by_cases h3 : OutA m n
      · rw [if_pos h3, if_pos (h n (by omega) h3)]; omega
      · rw [if_neg h3]; split <;> omega
/-- one deed -/
theorem deed_step (hm : m.Ok) (hm' : m'.Ok) (hw : m'.wd = m.wd) (hn : m'.n = m.n) (hr : IsReg m r) (hT : IsMany m r k) (hi : i < k) (h1 : inCount m r i k = 1) (hf : ∀ j, j < i → inCount m r j k ≠ 1)
    {x : Int} {O : Nat → Int} (hx : IsAr m r i k x) (hO : IsGiv m r (fun j => if j = i then x else -1) O m.n) (ho : ∀ p, p < m.n → m'.own p = O p) : HulA m m' ∧ outN m' m.n < outN m m.n := by
  obtain ⟨y, hy, hiy, honly, hout, hside⟩ := first_deed hm hr hT hi h1 hf
  have hxy : x = y := by
    rcases hx with ⟨-, h⟩ | ⟨a, rfl, ha, hia, -⟩
    · exact absurd hiy (h y hy)
    · rw [honly a hia]
  subst hxy
  have hin : ∀ p, r p = i → ¬ OutA m p := fun p hpi h => by
    have := h r hr y
    rw [hpi] at this
    exact this hiy
  by_cases hr' : ∃ r', IsReg m' r'
  case neg =>
    obtain ⟨p, q, hp, -, hpi, -⟩ := hside
    exact ⟨fun _ r2 _ h2 => absurd ⟨r2, h2⟩ hr', outN_lt (fun p _ _ r2 h2 => absurd ⟨r2, h2⟩ hr') (hin p hpi) (fun r2 h2 => absurd ⟨r2, h2⟩ hr') m.n (Nat.le_refl _) hp⟩
  obtain ⟨r', hr'⟩ := hr'
  have D : Deed m m' r r' i y := ⟨hm, hm', hw, hn, hr, hr', hiy, honly, hout, hside, fun p hp hne => (ho p hp).trans (hO.1 p hp (if_neg hne)), fun p q hp hq hpi hqy => (ho p hp).trans (hO.2.1 p hp q hq (by show (if r p = i then (y : Int) else -1) = _; rw [if_pos hpi, hqy]))⟩
  refine ⟨HulA.of hn hr hr' (fun p o hp h => D.hull hp h), ?_⟩
  obtain ⟨p, q, hp, hq, hpi, hqy, -⟩ := hside
  refine outN_lt (fun p hp h => OutA.of hr' (by omega) (D.outer hp (h r hr))) (p := p) (hin p hpi) ?_ m.n (Nat.le_refl _) hp
  · refine OutA.of hr' (by omega) ?_
    rw [D.join hp hq hpi hqy]
    exact D.outer hq (by rw [hqy]; exact hout)
/-- owners that are some plots' owners are right -/
theorem errE_giv {wd : Int} {os os' : List Int} (he : errE wd os = 0) (hl : os'.length = os.length) (h : ∀ p, p < os.length → ∃ q, q < os.length ∧ os'.getD p 0 = os.getD q 0) : errE wd os' = 0 := by
  unfold errE at he ⊢
  rw [hl]
  cases hc : countB wd os.length with
  | false => rw [hc] at he; cases he
  | true =>
    rw [hc] at he
    rw [if_pos rfl] at he ⊢
    rw [if_pos]
    rw [List.all_eq_true]
    intro p hp
    obtain ⟨q, hq, e⟩ := h p (List.mem_range.1 hp)
    rw [e]
    by_cases h2 : ((List.range os.length).all fun k => inB (os.getD k 0) 0 9) = true
    · exact (List.all_eq_true.1 h2) q (List.mem_range.2 hq)
    · rw [if_neg h2] at he; cases he
theorem IsGiv.some {i : Nat} {x : Int} {O : Nat → Int} (hr : IsReg m r) (hT : IsMany m r k) (hx : IsAr m r i k x) (hO : IsGiv m r (fun j => if j = i then x else -1) O m.n) {p : Nat} (hp : p < m.n) : ∃ q, q < m.n ∧ O p = m.own q := by
  by_cases h : (if r p = i then x else -1) = -1
  · exact ⟨p, hp, hO.1 p hp h⟩
  · have h0 : r p = i := by
      apply Classical.byContradiction
      intro e
      exact h (if_neg e)
    rw [if_pos h0] at h
    rcases hx with ⟨e, -⟩ | ⟨a, rfl, ha, -⟩
    · exact absurd e h
    · obtain ⟨q, hq, hqa⟩ := hT.ex a ha
      exact ⟨q, hq, hO.2.1 p hp q hq (by show (if r p = i then (a : Int) else -1) = _; rw [if_pos h0, hqa])⟩
/-- what the program gives is what the deeds give -/
theorem giv_hull {T O : Nat → Int} (hr : IsReg m r) (hT : IsMany m r k) (h : ∀ j, j < k → IsOutm m r k T j) (hO : IsGiv m r T O m.n) {p : Nat} (hp : p < m.n) : Hull m r p (O p) := by
  rcases h (r p) (hT.lt p hp) with ⟨h1, h2⟩ | ⟨y, h1, h2, h3, h4⟩
  · rw [hO.1 p hp h1]; exact h2.hull hp
  · obtain ⟨q, hq, hqy⟩ := hT.ex y h2
    refine ⟨q, hq, by rw [hqy]; exact h4, .inr (by rw [hqy]; exact h3), ?_⟩
    exact (hO.2.1 p hp q hq (by rw [h1, hqy])).symm
/-- where all is outermost, each plot is whose it is -/
theorem HulA.ends (h : HulA m0 m) (hn : m.n = m0.n) (hm : m.Ok) {r0 : Nat → Nat} (hr0 : IsReg m0 r0) (hr : IsReg m r) (ho : ∀ p, p < m.n → OutA m p) {p : Nat} (hp : p < m0.n) {o : Int} (hh : Hull m0 r0 p o) : m.own p = o :=
  Hull.unique hm hr (show p < m.n by omega) (Outer.hull (by omega) (ho p (by omega) r hr)) (h r0 r hr0 hr p o hp hh)
end
end Go.Proofs.Ytkjcnkkmhkcddaa
/-
  The reference's map without enclaves: the contract of its function Clear.
-/
namespace Go.Proofs.Ytkjcnkkmhkcddaa
open Go.RowKit Go.Shelf
open Lim

attribute [local go_sem] Oper.semAt_some

/-- while deeds are done: the map of one's own at q9, its owners at g9 -/
structure RcM (w2 : World) (q9 g9 c9 : Nat) (wd n : Nat) (os : List Int) (W : World) : Prop where
 be : Below w2.heap.size w2 W
 box : W.heap[q9]? = some (.cells #[.int .i64 wd, .slice (some ⟨g9, 0, none⟩) n c9] 28 (0, 0))
 row : RowK W g9 n c9 (fun p => os.getD p 0)
 ge : w2.heap.size ≤ q9 ∧ w2.heap.size ≤ g9
 len : os.length = n
theorem RcM.on {w2 W W' : World} {q9 g9 c9 wd n : Nat} {os : List Int} (h : RcM w2 q9 g9 c9 wd n os W) (hb : Below W.heap.size W W') : RcM w2 q9 g9 c9 wd n os W' :=
 ⟨h.be.trans (hb.mono h.be.size), (hb.block q9 (Array.getElem?_eq_some_iff.1 h.box).1).trans h.box, h.row.sep (T := fun _ => False) (Sep.of_below hb) id, h.ge, h.len⟩
theorem RcM.rs {w2 W : World} {q9 g9 c9 wd n : Nat} {os : List Int} (h : RcM w2 q9 g9 c9 wd n os W) : RS W.heap.size W (.slice (some ⟨g9, 0, none⟩) n c9) os.length (ints os) := by
 have h1 := RS.of_owns (h.row.owns (base := 0) (Nat.zero_le _))
 have h2 : (List.range n).map (fun p => os.getD p 0) = os := by
  refine List.ext_getElem? (fun j => ?_)
  rw [List.getElem?_map]
  by_cases hj : j < n
  ·rw [List.getElem?_range hj]
   show some (os.getD j 0) = os[j]?
   rw [List.getD_eq_getElem?_getD, List.getElem?_eq_getElem (by rw [h.len]; exact hj)]; rfl
  ·rw [List.getElem?_eq_none (by simp; omega), List.getElem?_eq_none (by rw [h.len]; omega)]; rfl
 rw [h2] at h1
 rw [h.len]; exact h1
/-- behind a deed -/
theorem RcM.give {w2 W W' : World} {q9 g9 c9 wd n : Nat} {os : List Int} (h : RcM w2 q9 g9 c9 wd n os W) (hb : Below W.heap.size W W') {v : Value} {O : Nat → Int} (hn : 0 < n) (ho : W'.ownsRow W.heap.size 3 1 v n (ints ((List.range n).map O))) :
  ∃ g c, v = .slice (some ⟨g, 0, none⟩) n c ∧ RcM w2 q9 g c wd n ((List.range n).map O) ((W'.setCell ⟨q9, 0, none⟩ (.int .i64 wd)).setCell ⟨q9, 1, none⟩ (.slice (some ⟨g, 0, none⟩) n c)) := by
 obtain ⟨g, c, rfl, hg, hR⟩ := RowK.of_owns ho hn
 have hq : q9 < W.heap.size := (Array.getElem?_eq_some_iff.1 h.box).1
 refine ⟨g, c, rfl, ?_, heap_set_pair _ _ ((hb.block q9 hq).trans h.box), ?_, ⟨h.ge.1, Nat.le_trans h.be.size hg⟩, by simp⟩
 ·exact ((h.be.trans (hb.mono h.be.size)).setCell (p := ⟨q9, 0, none⟩) h.ge.1 _).setCell (p := ⟨q9, 1, none⟩) h.ge.1 _
 ·have hs : Sep (fun k => k = q9) W' ((W'.setCell ⟨q9, 0, none⟩ (.int .i64 wd)).setCell ⟨q9, 1, none⟩ (.slice (some ⟨g, 0, none⟩) n c)) := (Sep.set W' q9 0 _).trans (Sep.set _ q9 1 _)
  exact hR.sep hs (by omega)
theorem getD_map_range {n p : Nat} (O : Nat → Int) (hp : p < n) : ((List.range n).map O).getD p 0 = O p := by
 rw [List.getD_eq_getElem?_getD, List.getElem?_map, List.getElem?_range hp]; rfl
/-- what the reference's Clear answers -/
def RClAns (wd : Int) (os : List Int) (w : World) (e : Ending) (w' : World) : Prop :=
 Below w.heap.size w w' ∧ ((errE wd os ≠ 0 ∧ e = .returned (.tuple #[.agg #[.int .i64 0, .slice none 0 0], .slice none 0 0, .int .i64 (errE wd os)])) ∨
  (errE wd os = 0 ∧ ∃ (O : Nat → Int) (v pv : Value), (∀ r, IsReg ⟨wd.toNat, os⟩ r → ∀ p o, p < os.length → Hull ⟨wd.toNat, os⟩ r p o → O p = o) ∧
   e = .returned (.tuple #[.agg #[.int .i64 wd, v], pv, .int .i64 0]) ∧ w'.ownsRow w.heap.size 3 1 v os.length (ints ((List.range os.length).map O)) ∧
   w'.ownsRow w.heap.size 3 1 pv (plotL O (fun p => os.getD p 0) os.length).length (ints ((plotL O (fun p => os.getD p 0) os.length).map Int.ofNat))))
set_option maxRecDepth 20000 in
set_option maxHeartbeats 8000000 in
theorem rClear_any {B : Nat} {wd : Int} {ov : Value} {os : List Int} {w : World} (hl : os.length ≤ 100000) (hB : B ≤ w.heap.size) (hv : RS B w ov os.length (ints os)) :
  Calls Try.prog 19 #[.agg #[.int .i64 wd, ov]] w fun e w' => RClAns wd os w e w' := by
 have hb : Below w.heap.size w ((w.alloc (.cells #[.int .i64 wd, ov] 28)).alloc (.cells #[.int .i64 0, .slice none 0 0] 28)) := ((Below.refl _ w).alloc (Nat.le_refl _) _).alloc (by simp) _
 have HCK := Lib.hid (rCheck_any (wd := wd) (w := (w.alloc (.cells #[.int .i64 wd, ov] 28)).alloc (.cells #[.int .i64 0, .slice none 0 0] 28)) hl (Nat.le_trans hB hb.size) (hv.below (hb.mono hB)))
 have HV := Lib.hid (And.intro hB hv)
 obtain ⟨oa, oc, rfl, -⟩ := hv
 have f0 : ((w.alloc (.cells #[.int .i64 wd, .slice oa os.length oc] 28)).alloc (.cells #[.int .i64 0, .slice none 0 0] 28)).cell? ⟨w.heap.size, 0, none⟩ = some (.int .i64 wd) := by simp [go_sem]
 have f1 : ((w.alloc (.cells #[.int .i64 wd, .slice oa os.length oc] 28)).alloc (.cells #[.int .i64 0, .slice none 0 0] 28)).cell? ⟨w.heap.size, 1, none⟩ = some (.slice oa os.length oc) := by simp [go_sem]
 have f2 : ((w.alloc (.cells #[.int .i64 wd, .slice oa os.length oc] 28)).alloc (.cells #[.int .i64 0, .slice none 0 0] 28)).cell? ⟨w.heap.size + 1, 0, none⟩ = some (.int .i64 0) := by simp [go_sem]
 have f3 : ((w.alloc (.cells #[.int .i64 wd, .slice oa os.length oc] 28)).alloc (.cells #[.int .i64 0, .slice none 0 0] 28)).cell? ⟨w.heap.size + 1, 1, none⟩ = some (.slice none 0 0) := by simp [go_sem]
 have f4 : ((w.alloc (.cells #[.int .i64 wd, .slice oa os.length oc] 28)).alloc (.cells #[.int .i64 0, .slice none 0 0] 28)).frozen? ⟨w.heap.size + 1, 0, none⟩ = false := by simp [go_sem]
 have f5 : ((w.alloc (.cells #[.int .i64 wd, .slice oa os.length oc] 28)).alloc (.cells #[.int .i64 0, .slice none 0 0] 28)).frozen? ⟨w.heap.size + 1, 1, none⟩ = false := by simp [go_sem]
 have HB := Lib.hid hb
 clear hb hB hl
 go_enter Try.func19, Try.ntmps19
 refine wp_noPanic ?_
 go_wp2_with fail
 generalize (w.alloc (.cells #[.int .i64 wd, .slice oa os.length oc] 28)).alloc (.cells #[.int .i64 0, .slice none 0 0] 28) = w1 at HB HCK f0 f1 f2 f3 f4 f5 ⊢
 obtain ⟨q, hq⟩ : ∃ q, q = w.heap.size := ⟨_, rfl⟩
 obtain ⟨q4, hq4⟩ : ∃ q, q = w.heap.size + 1 := ⟨_, rfl⟩
 have HQ := Lib.hid (And.intro hq hq4)
 rw [← hq4] at f2 f3 f4 f5 ⊢
 rw [← hq] at f0 f1 ⊢
 clear hq hq4
 refine HCK.out.mono ?_
 rintro e w2 ⟨rfl, hb⟩
 replace f4 := frozen_on hb f2 f4
 replace f5 := frozen_on hb f3 f5
 replace f0 := hb.on f0
 replace f1 := hb.on f1
 replace f2 := hb.on f2
 replace f3 := hb.on f3
 have HB2 := Lib.hid (HB.out.trans (hb.mono HB.out.size))
 clear hb HB HCK w1
 by_cases he : errE wd os = 0
 ·rw [he]
  obtain ⟨m, hm⟩ : ∃ m : Mp, m = ⟨wd.toNat, os⟩ := ⟨_, rfl⟩
  have HMN : Hid (m.n ≤ 100 ∧ m.Ok) := Lib.hid (by rw [hm]; exact ⟨(errE_ok he).1.n1, (errE_ok he).1⟩)
  have hwd : wd = (m.wd : Int) := by rw [hm]; exact (errE_ok he).2
  have hos : os = m.os := by rw [hm]
  have HE := Lib.hid he
  have HMS : Hid ((⟨wd.toNat, os⟩ : Mp) = m) := Lib.hid hm.symm
  clear hm
  subst hwd hos
  have hnn : m.os.length = m.n := rfl
  simp only [hnn] at f1 HV ⊢
  clear he hnn
  obtain ⟨_, _, e0, hoc⟩ := HV.out.2
  injection e0 with e0 _ e1
  subst e0 e1
  obtain ⟨ob, oo, rfl, hob, hocell⟩ := hoc (ints_ne HMN.out.2.n0)
  have HOW : Hid (∀ W, Below w2.drew.heap.size w2.drew W → ∀ j u, (ints m.os)[j]? = some u → W.cell? ⟨ob, oo + j, none⟩ = some u) := Lib.hid fun W hW j u hj => cell_below (B := B) ((HB2.out.drew.trans (hW.mono HB2.out.drew.size)).mono HV.out.1) (hocell j u hj) hob
  have HOC2 : Hid (∀ W, Below w2.heap.size w2 W → ∀ p, p < m.n → W.cell? ⟨ob, oo + p, none⟩ = some (.int .i64 (m.own p))) := Lib.hid fun W hW p hp => cell_below (B := B) ((HB2.out.trans (hW.mono HB2.out.size)).mono HV.out.1) (hocell p _ (ints_at' m.os p hp)) hob
  have HQB : Hid (q < w2.drew.heap.size) := Lib.hid (World.block_lt_of_cell? _ _ f0)
  clear hoc hob hocell
  go_wp2_with fail
  have hC : (fun W => W.cell? ⟨q, 0, none⟩ = some (.int .i64 m.wd) ∧ W.cell? ⟨q, 1, none⟩ = some (.slice (some ⟨ob, oo, none⟩) m.n oc)) w2.drew := ⟨f0, f1⟩
  refine Lim.regC' (fun W => W.cell? ⟨q, 0, none⟩ = some (.int .i64 m.wd) ∧ W.cell? ⟨q, 1, none⟩ = some (.slice (some ⟨ob, oo, none⟩) m.n oc)) [] #[false, false, false, false, false, false, false, false, false] (by kernel_rfl) rfl ?_
  refine Lim.stepR 0 (fun _ => trivial) rfl (by kernel_rfl) (fun _ _ _ _ h => h) hC rfl ?_; apply Exists.intro; refine ⟨?_, ?_⟩
  ·rintro w ⟨r0, r1⟩; go_simp; try with_reducible rfl
  simp only [Act.put, List.setIfInBounds_toArray, List.set_cons_succ, List.set_cons_zero]
  refine Lim.stepR 1 (fun _ => trivial) rfl (by kernel_rfl) (fun _ _ _ _ h => h) hC rfl ?_; apply Exists.intro; refine ⟨?_, ?_⟩
  ·rintro w ⟨r0, r1⟩; go_simp; try with_reducible rfl
  simp only [Act.put, List.setIfInBounds_toArray, List.set_cons_succ, List.set_cons_zero]
  refine Lim.stepR 3 (fun _ => trivial) rfl (by kernel_rfl) (fun _ _ _ _ h => h) hC rfl ?_; apply Exists.intro; refine ⟨?_, ?_⟩
  ·rintro w ⟨r0, r1⟩; go_simp; try with_reducible rfl
  simp only [Act.put, List.setIfInBounds_toArray, List.set_cons_succ, List.set_cons_zero]
  refine Lim.stepR 4 (fun _ => trivial) rfl (by kernel_rfl) (fun _ _ _ _ h => h) hC rfl ?_; apply Exists.intro; refine ⟨?_, ?_⟩
  ·rintro w ⟨r0, r1⟩; go_simp; try with_reducible rfl
  simp only [Act.put, List.setIfInBounds_toArray, List.set_cons_succ, List.set_cons_zero]
  clear hC
  refine Lim.parC [2, 5, 6, 7, 8] (fun done a W => ∃ xb xa xu yl, a = { tmps := #[.agg #[.int .i64 m.wd, .slice (some ⟨ob, oo, none⟩) m.n oc], .pointer (some ⟨q, 0, none⟩), .pointer (some ⟨q4, 0, none⟩), .slice none 0 0, .int .i64 0, .int .i64 0, yl, undef, undef, undef, undef, undef, undef, undef, .agg #[.int .i64 m.wd, .slice (some ⟨ob, oo, none⟩) m.n oc], .int .i64 0, .int .i64 0, .bool false, undef, undef, .pointer (some ⟨q, 0, none⟩), .int .i64 m.wd, xb, .pointer (some ⟨q, 1, none⟩), .slice (some ⟨ob, oo, none⟩) m.n oc, xa, xu, undef, undef, undef, undef, undef, undef, undef, undef, undef, undef, undef, undef, undef, undef, undef, undef, undef, undef, undef, undef, undef, undef, undef, undef, undef, undef, undef, undef, undef, undef, undef, undef, undef, undef, undef, undef, undef, undef, undef, undef, undef, undef, undef, undef, undef, undef, undef, undef, undef, undef, undef, undef], defers := [] } ∧ ApP w2.drew m.wd m.os (done 2) (done 5) (done 6) (done 7) (done 8) xb xa xu yl W ∧ (fun W => W.cell? ⟨q, 0, none⟩ = some (.int .i64 m.wd) ∧ W.cell? ⟨q, 1, none⟩ = some (.slice (some ⟨ob, oo, none⟩) m.n oc)) W) (fun _ => trivial) (by kernel_rfl) rfl rfl ?hC ?step ?fin ⟨_, _, _, _, rfl, ?st, ⟨f0, f1⟩⟩
  case st => exact ⟨Below.refl _ _, fun h _ => (by cases h), fun h => (by cases h), fun h => (by cases h), fun h => (by cases h), fun h => (by cases h)⟩
  case hC => rintro done a W ⟨_, _, _, _, -, -, hc⟩; exact hc
  case step =>
   intro i o hi ho done a W hd hdep hS K hK
   obtain ⟨xb, xa, xu, yl, rfl, H, ⟨hc0, hc1⟩⟩ := hS
   simp only [List.mem_cons, List.not_mem_nil, or_false] at hi
   rcases hi with rfl | rfl | rfl | rfl | rfl
   ·cases ho
    clear hdep
    go_simp
    refine hK _ _ ?_
    have hb : Below W.heap.size W (W.alloc (.cells #[] 3)) := (Below.refl _ W).alloc (Nat.le_refl _) _
    exact ⟨_, xa, xu, yl, rfl, H.mkB hd, ⟨hb.on hc0, hb.on hc1⟩⟩
   ·cases ho
    have hb0 := hdep 2 (by kernel_rfl) (by simp)
    clear hdep
    have hob := H.cb hb0 hd
    obtain ⟨i0, hi, hz0, hz1, hz2⟩ := info_parts Try.infoInt
    obtain ⟨v', W', hrun, hown, hgrow, -⟩ := run_append_own (P := Try.prog) W w2.drew.heap.size 22 22 3 i0 (.int .i64 0) 1 8 Try.underlying22 hi hz0 hz1 hz2 rfl (by decide) _ _ _ hob ⟨ob, oo, none⟩ m.n oc (ints m.os) (by rw [ints_length]; exact (Nat.mul_one _).symm) (fun j u hj => by rw [addr_add]; exact HOW.out W H.be j u hj) (by intro u hu; simp [ints] at hu; obtain ⟨x, -, rfl⟩ := hu; rfl) (by have := HMN.out; unfold maxLen; omega) (by have := HMN.out; omega) H.be.size
    have hb : Below w2.drew.heap.size W W' := (Below.refl _ W).mono H.be.size |>.grown hgrow H.be.size (fun r e => hob.lt r e |>.1)
    refine Lim.append_upon rfl rfl rfl hrun (hK _ _ ?_)
    rw [Nat.zero_add, List.nil_append] at hown
    exact ⟨xb, _, xu, yl, rfl, H.app hd hgrow hob hown, ⟨cell_below hb hc0 HQB.out, cell_below hb hc1 HQB.out⟩⟩
   ·cases ho
    have ha := hdep 5 (by kernel_rfl) (by simp)
    clear hdep
    have h1 := RS.of_owns (H.ca ha)
    obtain ⟨ga, gc, rfl, -⟩ := h1
    go_simp
    refine hK _ _ ?_
    exact ⟨xb, _, _, yl, rfl, H.bld ha, ⟨hc0, hc1⟩⟩
   ·cases ho
    clear hdep
    go_simp
    refine hK _ _ ?_
    have hb : Below W.heap.size W (W.alloc (.cells #[.int .i64 0, .slice none 0 0] 28)) := (Below.refl _ W).alloc (Nat.le_refl _) _
    exact ⟨xb, xa, xu, _, rfl, H.box hd _ _, ⟨hb.on hc0, hb.on hc1⟩⟩
   ·cases ho
    have hu := hdep 6 (by kernel_rfl) (by simp)
    have hl := hdep 7 (by kernel_rfl) (by simp)
    clear hdep
    obtain ⟨ha, rfl⟩ := H.cu hu
    obtain ⟨ga, gc, rfl, -⟩ := RS.of_owns (H.ca ha)
    obtain ⟨qb, b0, b1, rfl, hge, hq, -⟩ := H.cl hl
    obtain ⟨⟨z0, z1⟩, z2, z3⟩ := two_cells hq
    have HPU := Lib.hid (H.put hu hl hq hge)
    have HNQ : Hid (q ≠ qb) := Lib.hid (by have h1 := HQB.out; omega)
    clear hq hge
    go_simp
    refine hK _ _ ?_
    exact ⟨xb, _, _, _, rfl, HPU.out, ⟨(setCell_far _ _ HNQ.out.symm).trans ((setCell_far _ _ HNQ.out.symm).trans hc0), (setCell_far _ _ HNQ.out.symm).trans ((setCell_far _ _ HNQ.out.symm).trans hc1)⟩⟩
  case fin =>
   rintro done a W hall ⟨xb, xa, xu, yl, rfl, H, ⟨hc0, hc1⟩⟩
   obtain ⟨ha, rfl⟩ := H.cu (hall 6 (by simp))
   have hrow := H.ca ha
   obtain ⟨q9, a9, b9, rfl, hge9', hq9, hs9⟩ := H.cl (hall 7 (by simp))
   have e1 := hs9 (hall 8 (by simp))
   simp only [Value.agg.injEq, Array.mk.injEq, List.cons.injEq, and_true] at e1
   obtain ⟨rfl, rfl⟩ := e1
   have hbe := H.be
   have hge9 : w2.drew.heap.size ≤ q9 := hge9'
   clear H hall
   have hwp : m.os.length = m.n := rfl
   rw [hwp] at hrow
   obtain ⟨g9, c9, rfl, hg9, hR9⟩ := RowK.of_owns hrow HMN.out.2.n0
   have hR9 : RowK W g9 m.n c9 (fun p => m.os.getD p 0) := ⟨fun j hj => hR9.c j hj, hR9.f, hR9.o, hR9.le⟩
   have M0 : Hid (RcM w2 q9 g9 c9 m.wd m.n m.os W) := Lib.hid ⟨((Below.refl _ w2).drew).trans hbe, hq9, hR9, ⟨hge9, hg9⟩, rfl⟩
   clear hR9 hrow hq9 hs9 hbe hge9 hg9 hwp hc0 hc1 ha
   try clear hC
   have hn64 : (m.n : Int) < 1000 := by have := HMN.out.1; omega
   go_wp2_with fail
   go_loopg [7] (outN m m.n + 1) (fun gk v W => ∃ (fd : Bool) (os' : List Int) (g8 c8 : Nat), v = .bool fd ∧ Hid (RcM w2 q9 g8 c8 m.wd m.n os' W ∧ errE m.wd os' = 0 ∧ HulA m ⟨m.wd, os'⟩ ∧ (fd = false → (∃ r, IsReg ⟨m.wd, os'⟩ r) ∧ ∀ p, p < m.n → OutA ⟨m.wd, os'⟩ p) ∧ gk = outN ⟨m.wd, os'⟩ m.n + if fd = true then 1 else 0))
   case atStart => exact ⟨true, m.os, g9, c9, rfl, Lib.hid ⟨M0.out, HE.out, HulA.refl _, (fun h => by cases h), rfl⟩⟩
   case round =>
    clear M0
    obtain ⟨fd, os', g8, c8, rfl, hI⟩ := hrel
    obtain ⟨⟨p0, p1⟩, -, -⟩ := two_cells hI.out.1.box
    have HER := Lib.hid hI.out.2.1
    cases fd with
    | false =>
     go_wp2_with fail
     obtain ⟨⟨rr, hrr⟩, hout⟩ := hI.out.2.2.2.1 (by trivial)
     have HEND : Hid (∀ r, IsReg m r → ∀ p o, p < m.n → Hull m r p o → os'.getD p 0 = o) := Lib.hid (by
      have hok : Mp.Ok ⟨m.wd, os'⟩ := by have h := (errE_ok HER.out).1; rwa [Int.toNat_natCast] at h
      have hln : Mp.n ⟨m.wd, os'⟩ = m.n := hI.out.1.len
      exact fun r hr p o hp hh => hI.out.2.2.1.ends hln hok hr hrr (fun p hp => hout p (by rw [← hln]; exact hp)) hp hh)
     have HM := Lib.hid hI.out.1
     have HNE : Hid (¬ g8 = q4) := Lib.hid (by have h1 := HM.out.ge.2; have h2 : q4 < w2.heap.size := World.block_lt_of_cell? _ _ f2; omega)
     obtain ⟨w6, rfl⟩ : ∃ w6, w6 = wr := ⟨_, rfl⟩
     have HBW : Hid (Below w.heap.size w w6) := Lib.hid (HB2.out.trans (HM.out.be.mono HB2.out.size))
     have HO6 : Hid (∀ W, Below w6.heap.size w6 W → ∀ p, p < m.n → W.cell? ⟨g8, p, none⟩ = some (.int .i64 (os'.getD p 0)) ∧ W.cell? ⟨ob, oo + p, none⟩ = some (.int .i64 (m.own p))) := Lib.hid fun W hW p hp => by
      refine ⟨hW.on (HM.out.row.c p hp), ?_⟩
      exact HOC2.out W (HM.out.be.trans (hW.mono HM.out.be.size)) p hp
     have b0 := HM.out.be.on f2
     have b1 := HM.out.be.on f3
     have b2 := frozen_on HM.out.be f2 f4
     have b3 := frozen_on HM.out.be f3 f5
     have b4 := HM.out.be.on f1
     have HD := Lib.hid (And.intro b0 (And.intro b1 (And.intro b2 (And.intro b3 (And.intro b4 (And.intro p0 p1))))))
     have hn100 : m.n ≤ 100 := HMN.out.1
     obtain ⟨i0, hi, hz0, hz1, hz2⟩ := info_parts Try.infoInt
     have HF := Lib.hid (And.intro hi (And.intro hz0 (And.intro hz1 hz2)))
     obtain ⟨O, hO⟩ : ∃ O : Nat → Int, O = fun p => os'.getD p 0 := ⟨_, rfl⟩
     have HOO : Hid (∀ p, O p = os'.getD p 0) := Lib.hid fun p => by rw [hO]
     clear b0 b1 b2 b3 b4 p0 p1 hI hrr hout hi hz0 hz1 hz2 hO f0 f1 f2 f3 f4 f5
     go_wp2_with fail
     go_loopw [12, 13] (fun v iv wr => ∃ p : Nat, p ≤ m.n ∧ iv = .int .i64 p ∧ Hid (Below w6.heap.size w6 wr ∧ wr.ownsRow w6.heap.size 3 1 v (plotL O m.own p).length (ints ((plotL O m.own p).map Int.ofNat)))) (fun _ iv _ => m.n - (intOf iv).toNat)
     case atStart => exact ⟨0, Nat.zero_le _, rfl, Lib.hid ⟨Below.refl _ _, World.ownsRow_nil _ _ _ _⟩⟩
     case round =>
      obtain ⟨p, hp, rfl, hP⟩ := hrel
      by_cases hlt : p < m.n
      ·have hp64 : (p : Int) < 100 := by omega
       have d1 := (HO6.out _ hP.out.1 p hlt).1
       have d3 := (HO6.out _ hP.out.1 p hlt).2
       have d2 := hP.out.1.on HD.out.2.2.2.2.1
       have d4 := hP.out.1.on HD.out.2.2.2.2.2.2
       obtain ⟨o, ho⟩ : ∃ o, o = O p := ⟨_, rfl⟩
       obtain ⟨o', ho'⟩ : ∃ o', o' = m.own p := ⟨_, rfl⟩
       rw [← HOO.out p, ← ho] at d1
       rw [← ho'] at d3
       have hC : (fun W => W.cell? ⟨q9, 1, none⟩ = some (.slice (some ⟨g8, 0, none⟩) m.n c8) ∧ W.cell? ⟨q, 1, none⟩ = some (.slice (some ⟨ob, oo, none⟩) m.n oc) ∧ W.cell? ⟨g8, p, none⟩ = some (.int .i64 o) ∧ W.cell? ⟨ob, oo + p, none⟩ = some (.int .i64 o')) wr.drew := ⟨d4, d2, d1, d3⟩
       have HPD := Lib.hid (And.intro hP.out.1.drew (show World.ownsRow wr.drew _ _ _ _ _ _ from hP.out.2))
       by_cases hoo : o = o'
       ·have HN : Hid (plotL O m.own (p + 1) = plotL O m.own p) := Lib.hid (by rw [plotL, if_neg (by rw [← ho, ← ho', hoo]; exact fun h => h rfl), List.append_nil])
        have g1 : (o != o') = false := by simp [hoo]
        clear ho ho' hoo
        go_upto_region 19 with (fail)
        refine Lim.regC' (fun W => W.cell? ⟨q9, 1, none⟩ = some (.slice (some ⟨g8, 0, none⟩) m.n c8) ∧ W.cell? ⟨q, 1, none⟩ = some (.slice (some ⟨ob, oo, none⟩) m.n oc) ∧ W.cell? ⟨g8, p, none⟩ = some (.int .i64 o) ∧ W.cell? ⟨ob, oo + p, none⟩ = some (.int .i64 o')) [] #[false, false, false, false, false, false, false, false, false, false, false] (by kernel_rfl) rfl ?_
        refine Lim.stepR 0 (fun _ => trivial) rfl (by kernel_rfl) (fun _ _ _ _ h => h) hC rfl ?_; apply Exists.intro; refine ⟨?_, ?_⟩
        ·rintro w ⟨r1, r2, r3, r4⟩; go_simp; try with_reducible rfl
        simp only [Act.put, List.setIfInBounds_toArray, List.set_cons_succ, List.set_cons_zero]
        refine Lim.stepR 1 (fun _ => trivial) rfl (by kernel_rfl) (fun _ _ _ _ h => h) hC rfl ?_; apply Exists.intro; refine ⟨?_, ?_⟩
        ·rintro w ⟨r1, r2, r3, r4⟩; go_simp; try with_reducible rfl
        simp only [Act.put, List.setIfInBounds_toArray, List.set_cons_succ, List.set_cons_zero]
        refine Lim.stepR 2 (fun _ => trivial) rfl (by kernel_rfl) (fun _ _ _ _ h => h) hC rfl ?_; apply Exists.intro; refine ⟨?_, ?_⟩
        ·rintro w ⟨r1, r2, r3, r4⟩; go_simp; try with_reducible rfl
        simp only [Act.put, List.setIfInBounds_toArray, List.set_cons_succ, List.set_cons_zero]
        refine Lim.stepR 3 (fun _ => trivial) rfl (by kernel_rfl) (fun _ _ _ _ h => h) hC rfl ?_; apply Exists.intro; refine ⟨?_, ?_⟩
        ·rintro w ⟨r1, r2, r3, r4⟩; go_simp; try with_reducible rfl
        simp only [Act.put, List.setIfInBounds_toArray, List.set_cons_succ, List.set_cons_zero]
        refine Lim.stepR 4 (fun _ => trivial) rfl (by kernel_rfl) (fun _ _ _ _ h => h) hC rfl ?_; apply Exists.intro; refine ⟨?_, ?_⟩
        ·rintro w ⟨r1, r2, r3, r4⟩; go_simp; try with_reducible rfl
        simp only [Act.put, List.setIfInBounds_toArray, List.set_cons_succ, List.set_cons_zero]
        refine Lim.stepR 5 (fun _ => trivial) rfl (by kernel_rfl) (fun _ _ _ _ h => h) hC rfl ?_; apply Exists.intro; refine ⟨?_, ?_⟩
        ·rintro w ⟨r1, r2, r3, r4⟩; go_simp; try with_reducible rfl
        simp only [Act.put, List.setIfInBounds_toArray, List.set_cons_succ, List.set_cons_zero]
        refine Lim.stepR 6 (fun _ => trivial) rfl (by kernel_rfl) (fun _ _ _ _ h => h) hC rfl ?_; apply Exists.intro; refine ⟨?_, ?_⟩
        ·rintro w ⟨r1, r2, r3, r4⟩; go_simp; try with_reducible rfl
        simp only [Act.put, List.setIfInBounds_toArray, List.set_cons_succ, List.set_cons_zero]
        refine Lim.stepR 7 (fun _ => trivial) rfl (by kernel_rfl) (fun _ _ _ _ h => h) hC rfl ?_; apply Exists.intro; refine ⟨?_, ?_⟩
        ·rintro w ⟨r1, r2, r3, r4⟩; go_simp; try with_reducible rfl
        simp only [Act.put, List.setIfInBounds_toArray, List.set_cons_succ, List.set_cons_zero]
        refine Lim.stepR 8 (fun _ => trivial) rfl (by kernel_rfl) (fun _ _ _ _ h => h) hC rfl ?_; apply Exists.intro; refine ⟨?_, ?_⟩
        ·rintro w ⟨r1, r2, r3, r4⟩; go_simp; try with_reducible rfl
        simp only [Act.put, List.setIfInBounds_toArray, List.set_cons_succ, List.set_cons_zero]
        refine Lim.stepR 9 (fun _ => trivial) rfl (by kernel_rfl) (fun _ _ _ _ h => h) hC rfl ?_; apply Exists.intro; refine ⟨?_, ?_⟩
        ·rintro w ⟨r1, r2, r3, r4⟩; go_simp; try with_reducible rfl
        simp only [Act.put, List.setIfInBounds_toArray, List.set_cons_succ, List.set_cons_zero]
        refine Lim.stepR 10 (fun _ => trivial) rfl (by kernel_rfl) (fun _ _ _ _ h => h) hC rfl ?_; apply Exists.intro; refine ⟨?_, ?_⟩
        ·rintro w ⟨r1, r2, r3, r4⟩; go_simp; try with_reducible rfl
        simp only [Act.put, List.setIfInBounds_toArray, List.set_cons_succ, List.set_cons_zero]
        refine Lim.stepD (by kernel_rfl) ?_
        clear hC d1 d2 d3 d4 hP
        generalize wr.drew = wx at HPD ⊢
        go_wp2_with fail
        go_roundw
        case rel => exact ⟨p + 1, by omega, by go_num, Lib.hid ⟨HPD.out.1, by rw [HN.out]; exact HPD.out.2⟩⟩
        case measure => simp [intOf]; omega
       ·have HN : Hid (plotL O m.own (p + 1) = plotL O m.own p ++ [p]) := Lib.hid (by rw [plotL, if_pos (by rw [← ho, ← ho']; exact hoo)])
        have g1 : (o != o') = true := by simpa using hoo
        have HL : Hid ((plotL O m.own p).length ≤ 100) := Lib.hid (by have := plotL_le O m.own p; omega)
        obtain ⟨L, hL⟩ : ∃ L, L = (plotL O m.own p).map Int.ofNat := ⟨_, rfl⟩
        obtain ⟨Ln, hLn⟩ : ∃ Ln, Ln = (plotL O m.own p).length := ⟨_, rfl⟩
        have hown := HPD.out.2
        rw [← hL, ← hLn] at hown
        rw [← hLn] at HL
        have HOW := Lib.hid hown
        have HLE := Lib.hid (And.intro hL hLn)
        clear ho ho' hoo hL hLn hown
        go_upto_region 19 with (fail)
        refine Lim.regC' (fun W => W.cell? ⟨q9, 1, none⟩ = some (.slice (some ⟨g8, 0, none⟩) m.n c8) ∧ W.cell? ⟨q, 1, none⟩ = some (.slice (some ⟨ob, oo, none⟩) m.n oc) ∧ W.cell? ⟨g8, p, none⟩ = some (.int .i64 o) ∧ W.cell? ⟨ob, oo + p, none⟩ = some (.int .i64 o')) [] #[false, false, false, false, false, false, false, false, false, false, false] (by kernel_rfl) rfl ?_
        refine Lim.stepR 0 (fun _ => trivial) rfl (by kernel_rfl) (fun _ _ _ _ h => h) hC rfl ?_; apply Exists.intro; refine ⟨?_, ?_⟩
        ·rintro w ⟨r1, r2, r3, r4⟩; go_simp; try with_reducible rfl
        simp only [Act.put, List.setIfInBounds_toArray, List.set_cons_succ, List.set_cons_zero]
        refine Lim.stepR 1 (fun _ => trivial) rfl (by kernel_rfl) (fun _ _ _ _ h => h) hC rfl ?_; apply Exists.intro; refine ⟨?_, ?_⟩
        ·rintro w ⟨r1, r2, r3, r4⟩; go_simp; try with_reducible rfl
        simp only [Act.put, List.setIfInBounds_toArray, List.set_cons_succ, List.set_cons_zero]
        refine Lim.stepR 2 (fun _ => trivial) rfl (by kernel_rfl) (fun _ _ _ _ h => h) hC rfl ?_; apply Exists.intro; refine ⟨?_, ?_⟩
        ·rintro w ⟨r1, r2, r3, r4⟩; go_simp; try with_reducible rfl
        simp only [Act.put, List.setIfInBounds_toArray, List.set_cons_succ, List.set_cons_zero]
        refine Lim.stepR 3 (fun _ => trivial) rfl (by kernel_rfl) (fun _ _ _ _ h => h) hC rfl ?_; apply Exists.intro; refine ⟨?_, ?_⟩
        ·rintro w ⟨r1, r2, r3, r4⟩; go_simp; try with_reducible rfl
        simp only [Act.put, List.setIfInBounds_toArray, List.set_cons_succ, List.set_cons_zero]
        refine Lim.stepR 4 (fun _ => trivial) rfl (by kernel_rfl) (fun _ _ _ _ h => h) hC rfl ?_; apply Exists.intro; refine ⟨?_, ?_⟩
        ·rintro w ⟨r1, r2, r3, r4⟩; go_simp; try with_reducible rfl
        simp only [Act.put, List.setIfInBounds_toArray, List.set_cons_succ, List.set_cons_zero]
        refine Lim.stepR 5 (fun _ => trivial) rfl (by kernel_rfl) (fun _ _ _ _ h => h) hC rfl ?_; apply Exists.intro; refine ⟨?_, ?_⟩
        ·rintro w ⟨r1, r2, r3, r4⟩; go_simp; try with_reducible rfl
        simp only [Act.put, List.setIfInBounds_toArray, List.set_cons_succ, List.set_cons_zero]
        refine Lim.stepR 6 (fun _ => trivial) rfl (by kernel_rfl) (fun _ _ _ _ h => h) hC rfl ?_; apply Exists.intro; refine ⟨?_, ?_⟩
        ·rintro w ⟨r1, r2, r3, r4⟩; go_simp; try with_reducible rfl
        simp only [Act.put, List.setIfInBounds_toArray, List.set_cons_succ, List.set_cons_zero]
        refine Lim.stepR 7 (fun _ => trivial) rfl (by kernel_rfl) (fun _ _ _ _ h => h) hC rfl ?_; apply Exists.intro; refine ⟨?_, ?_⟩
        ·rintro w ⟨r1, r2, r3, r4⟩; go_simp; try with_reducible rfl
        simp only [Act.put, List.setIfInBounds_toArray, List.set_cons_succ, List.set_cons_zero]
        refine Lim.stepR 8 (fun _ => trivial) rfl (by kernel_rfl) (fun _ _ _ _ h => h) hC rfl ?_; apply Exists.intro; refine ⟨?_, ?_⟩
        ·rintro w ⟨r1, r2, r3, r4⟩; go_simp; try with_reducible rfl
        simp only [Act.put, List.setIfInBounds_toArray, List.set_cons_succ, List.set_cons_zero]
        refine Lim.stepR 9 (fun _ => trivial) rfl (by kernel_rfl) (fun _ _ _ _ h => h) hC rfl ?_; apply Exists.intro; refine ⟨?_, ?_⟩
        ·rintro w ⟨r1, r2, r3, r4⟩; go_simp; try with_reducible rfl
        simp only [Act.put, List.setIfInBounds_toArray, List.set_cons_succ, List.set_cons_zero]
        refine Lim.stepR 10 (fun _ => trivial) rfl (by kernel_rfl) (fun _ _ _ _ h => h) hC rfl ?_; apply Exists.intro; refine ⟨?_, ?_⟩
        ·rintro w ⟨r1, r2, r3, r4⟩; go_simp; try with_reducible rfl
        simp only [Act.put, List.setIfInBounds_toArray, List.set_cons_succ, List.set_cons_zero]
        refine Lim.stepD (by kernel_rfl) ?_
        clear hC d1 d2 d3 d4 hP
        generalize wr.drew = wx at HPD HOW ⊢
        go_wp2_with (at_builtin; refine wpList_append_own _ rfl _ _ 22 rfl w6.heap.size 3 i0 (.int .i64 0) 1 8 Try.underlying22 HF.out.1 HF.out.2.1 HF.out.2.2.1 HF.out.2.2.2 rfl (by decide) _ _ _ rfl (HOW.out.alloc _) ⟨wx.heap.size, 0, none⟩ 1 1 [.int .i64 p] rfl rfl (cell_one_new _ _ _) (by simp [Value.oneCell']) (by have := HL.out; unfold maxLen; omega) (by have := HL.out; omega) (by have := HPD.out.1.size; simp; omega) ?_; intro v' w7 hown7 hgrow _; have hb7 : Below w6.heap.size w6 w7 := (HPD.out.1.trans (((Below.refl _ wx).alloc (Nat.le_refl _) _).mono HPD.out.1.size)).grown hgrow (Nat.le_trans HPD.out.1.size (by simp)) (fun x hx => by { have := (HOW.out.lt x hx).1; omega }); have HW7 := Lib.hid (And.intro hb7 hown7); clear hown7 hgrow hb7)
        go_roundw
        case rel =>
         refine ⟨p + 1, by omega, by go_num, Lib.hid ⟨HW7.out.1, ?_⟩⟩
         rw [HN.out, List.length_append, ← HLE.out.2, List.map_append, ← HLE.out.1]
         have := HW7.out.2
         simpa [ints] using this
        case measure => simp [intOf]; omega
      ·obtain rfl : p = m.n := by omega
       have a0 := hP.out.1.on HD.out.2.2.2.2.2.1
       have a1 := hP.out.1.on HD.out.2.2.2.2.2.2
       have b0 := hP.out.1.on HD.out.1
       have b1 := hP.out.1.on HD.out.2.1
       have b2 := frozen_on hP.out.1 HD.out.1 HD.out.2.2.1
       have b3 := frozen_on hP.out.1 HD.out.2.1 HD.out.2.2.2.1
       go_wp2_with fail
       have hs : Sep (fun x => x = q4) wr ((wr.setCell ⟨q4, 0, none⟩ (.int .i64 m.wd)).setCell ⟨q4, 1, none⟩ (.slice (some ⟨g8, 0, none⟩) m.n c8)) := (Sep.set wr q4 0 _).trans (Sep.set _ q4 1 _)
       have r0 : ((wr.setCell ⟨q4, 0, none⟩ (.int .i64 m.wd)).setCell ⟨q4, 1, none⟩ (.slice (some ⟨g8, 0, none⟩) m.n c8)).cell? ⟨q4, 0, none⟩ = some (.int .i64 m.wd) := by rw [setCell_off _ _ (by omega)]; exact setCell_same _ _ b0
       have r1 : ((wr.setCell ⟨q4, 0, none⟩ (.int .i64 m.wd)).setCell ⟨q4, 1, none⟩ (.slice (some ⟨g8, 0, none⟩) m.n c8)).cell? ⟨q4, 1, none⟩ = some (.slice (some ⟨g8, 0, none⟩) m.n c8) := setCell_same _ _ (by rw [setCell_off _ _ (by omega)]; exact b1)
       refine bodyPost_ret (results_ctt (fn := Try.f19) (p := 2) (t := 3) (u := 4) (ty := 28) rfl _ _ q4 _ rfl (rload_map r0 r1)) rfl ?_
       have hq6 : q4 < w6.heap.size := World.block_lt_of_cell? _ _ HD.out.1
       have hq2 : w2.heap.size ≤ w6.heap.size := HM.out.be.size
       have hBw : Below w.heap.size w wr := HBW.out.trans (hP.out.1.mono HBW.out.size)
       have hqw : w.heap.size ≤ q4 := by have := HQ.out; omega
       have hr9 : RowK wr g8 m.n c8 (fun p => os'.getD p 0) := HM.out.row.sep (T := fun _ => False) (Sep.of_below hP.out.1) id
       refine ⟨hBw.trans (hs.below hBw.size (fun x hx => by rw [hx]; exact hqw)), .inr ⟨HE.out, fun p => os'.getD p 0, _, _, ?_, rfl, (hr9.sep hs HNE.out).owns (by have := HM.out.ge.2; have := HB2.out.size; omega), ?_⟩⟩
       ·rw [HMS.out]; exact HEND.out
       ·have hOe : O = fun p => os'.getD p 0 := funext HOO.out
        have h := hP.out.2
        rw [hOe] at h
        exact owns_mono (owns_sep (T := fun k => k = q4) h hs (fun k hk => by rw [hk]; exact hq6)) HBW.out.size
    | true =>
     have HDE := Lib.hid (fun W' (hb : Below wr.heap.size wr W') => rDepths_any (B := W'.heap.size) (wd := m.wd) (ov := .slice (some ⟨g8, 0, none⟩) m.n c8) (os := os') (w := W') (by rw [hI.out.1.len]; have := HMN.out.1; omega) (Nat.le_refl _) (hI.out.1.on hb).rs)
     have HGV := Lib.hid (fun (i : Int) W' (hb : Below wr.heap.size wr W') => rGive_any (B := W'.heap.size) (wd := m.wd) (ov := .slice (some ⟨g8, 0, none⟩) m.n c8) (os := os') i (w := W') (by rw [hI.out.1.len]; have := HMN.out.1; omega) (Nat.le_refl _) (hI.out.1.on hb).rs)
     go_wp2_with fail
     refine (HDE.out _ (Below.refl _ _)).mono ?_
     rintro e w5 ⟨hb5, h⟩
     rcases h with ⟨he, -⟩ | ⟨-, d1, d2, r1, k1, A1, rfl, hr1, hk1, -, hd, -⟩
     ·exact absurd HER.out he
     rw [Int.toNat_natCast] at hr1 hk1 hd
     have hk100 : k1 ≤ 100 := Nat.le_trans hk1.le (by rw [show Mp.n ⟨m.wd, os'⟩ = os'.length from rfl, hI.out.1.len]; exact HMN.out.1)
     obtain ⟨_, _, e0, hdc⟩ := hd
     injection e0 with e0 e1 e2
     subst e0 e2
     have HDC : Hid (∀ W, Below w5.heap.size w5 W → ∀ j, j < k1 → W.cell? ⟨d1, j, none⟩ = some (.int .i64 (inCount ⟨m.wd, os'⟩ r1 j k1 : Nat))) := Lib.hid fun W hW j hj => by
      obtain ⟨gb, go, e0, hgb, hac⟩ := hdc (ints_ne (by simp [depL]; omega))
      simp only [Option.some.injEq, Addr.mk.injEq, and_true] at e0
      obtain ⟨rfl, rfl⟩ := e0
      have h1 := hac j (.int .i64 (inCount ⟨m.wd, os'⟩ r1 j k1 : Nat)) (by simp [ints, depL, hj])
      rw [Nat.zero_add] at h1
      exact hW.on h1
     have HRK := Lib.hid (And.intro hr1 hk1)
     have HI5 := Lib.hid (hI.out.1.on hb5)
     have HB5 := Lib.hid hb5
     have hk64 : (k1 : Int) < 1000 := by omega
     clear hr1 hk1 hdc hb5 HDE p0 p1
     go_wp2_with fail
     go_loopw [7, 11] (fun v iv W => ∃ (fd : Bool) (i : Nat), v = .bool fd ∧ iv = .int .i64 i ∧ i ≤ k1 ∧ Hid ((fd = false ∧ Below w5.heap.size w5 W ∧ ∀ j, j < i → inCount ⟨m.wd, os'⟩ r1 j k1 ≠ 1) ∨ (fd = true ∧ ∃ (os2 : List Int) (g7 c7 : Nat), RcM w2 q9 g7 c7 m.wd m.n os2 W ∧ errE m.wd os2 = 0 ∧ HulA m ⟨m.wd, os2⟩ ∧ outN ⟨m.wd, os2⟩ m.n < outN ⟨m.wd, os'⟩ m.n))) (fun _ iv _ => k1 - (intOf iv).toNat)
     case atStart => exact ⟨false, 0, rfl, rfl, Nat.zero_le _, Lib.hid (.inl ⟨rfl, Below.refl _ _, fun j hj => absurd hj (Nat.not_lt_zero _)⟩)⟩
     case round =>
      obtain ⟨fd, i, rfl, rfl, hi, hJ⟩ := hrel
      cases fd with
      | true =>
       rcases hJ.out with ⟨h, -⟩ | ⟨-, os2, g7, c7, h1, h2, h3, h4⟩
       ·cases h
       have h5 := hI.out.2.2.2.2
       simp only [if_true] at h5
       have HF : Hid (RcM w2 q9 g7 c7 m.wd m.n os2 wr ∧ errE m.wd os2 = 0 ∧ HulA m ⟨m.wd, os2⟩ ∧ outN ⟨m.wd, os2⟩ m.n + 1 < gk) := Lib.hid ⟨h1, h2, h3, by omega⟩
       clear h1 h2 h3 h4 h5 hJ
       by_cases hlt : i < k1
       ·go_wp2_with fail
        go_roundg (outN ⟨m.wd, os2⟩ m.n + 1)
        case rel => exact ⟨true, os2, g7, c7, rfl, Lib.hid ⟨HF.out.1, HF.out.2.1, HF.out.2.2.1, (fun h => by cases h), rfl⟩⟩
        case measure => exact HF.out.2.2.2
       ·go_wp2_with fail
        go_roundg (outN ⟨m.wd, os2⟩ m.n + 1)
        case rel => exact ⟨true, os2, g7, c7, rfl, Lib.hid ⟨HF.out.1, HF.out.2.1, HF.out.2.2.1, (fun h => by cases h), rfl⟩⟩
        case measure => exact HF.out.2.2.2
      | false =>
       rcases hJ.out with ⟨-, hbi, hnone⟩ | ⟨h, -⟩
       case inr => cases h
       have HBI := Lib.hid (And.intro hbi hnone)
       have HI6 := Lib.hid (HI5.out.on hbi)
       by_cases hlt : i < k1
       ·have hi64 : (i : Int) < 1000 := by omega
        obtain ⟨dv, hdv⟩ : ∃ dv : Nat, dv = inCount ⟨m.wd, os'⟩ r1 i k1 := ⟨_, rfl⟩
        have d0 := HDC.out _ hbi i hlt
        rw [← hdv] at d0
        have HDV := Lib.hid hdv
        clear hdv hbi hnone hJ
        obtain ⟨⟨p0, p1⟩, -, -⟩ := two_cells HI6.out.box
        by_cases h1 : dv = 1
        ·replace d0 : wr.cell? ⟨d1, i, none⟩ = some (.int .i64 1) := by rw [h1] at d0; exact d0
         have HV1 : Hid (inCount ⟨m.wd, os'⟩ r1 i k1 = 1) := Lib.hid (HDV.out.symm.trans h1)
         clear h1
         have HGI := Lib.hid (HGV.out i _ (HB5.out.trans (HBI.out.1.mono HB5.out.size)))
         go_wp2_with fail
         refine HGI.out.mono ?_
         rintro e w7 ⟨hb7, h⟩
         rcases h with ⟨he, -⟩ | ⟨-, r2, k2, hr2, hk2, h⟩
         ·exact absurd HER.out he
         simp only [Int.toNat_natCast] at hr2 hk2 h
         obtain ⟨hrr, rfl⟩ := reg_same HRK.out.1 hr2 HRK.out.2 hk2
         rcases h with ⟨h, -⟩ | ⟨-, x, hx, h⟩
         ·rw [inB_true (by omega) (by omega)] at h; cases h
         have hpos : 0 < inCount ⟨m.wd, os'⟩ r2 i k1 := by rw [← inCount_congr hrr, HV1.out]; decide
         rcases h with ⟨rfl, -⟩ | ⟨hx1, v, O, rfl, hO, hown⟩
         ·obtain ⟨y, hy, hiy⟩ := inCount_pos.1 hpos
          rcases hx with ⟨-, h⟩ | ⟨a, h, -⟩
          ·exact absurd hiy (h y hy)
          ·exact absurd h (by omega)
         have hln : os'.length = m.n := HI6.out.len
         rw [hln] at hO hown
         obtain ⟨g7, c7, rfl, hM7⟩ := HI6.out.give hb7 HMN.out.2.n0 hown
         obtain ⟨⟨y0, y1⟩, y2, y3⟩ := two_cells (HI6.out.on hb7).box
         have hok : Mp.Ok ⟨m.wd, os'⟩ := by have h := (errE_ok HER.out).1; rwa [Int.toNat_natCast] at h
         have he7 : errE m.wd ((List.range m.n).map O) = 0 := errE_giv HER.out (by simp [hln]) (fun p hp => by
          rw [hln] at hp
          obtain ⟨q, hq, e⟩ := IsGiv.some hr2 hk2 hx (show IsGiv ⟨m.wd, os'⟩ r2 _ O (Mp.n ⟨m.wd, os'⟩) by rw [show Mp.n ⟨m.wd, os'⟩ = m.n from hln]; exact hO) (show p < Mp.n ⟨m.wd, os'⟩ by rw [show Mp.n ⟨m.wd, os'⟩ = m.n from hln]; exact hp)
          exact ⟨q, hq, by rw [getD_map_range O hp]; exact e⟩)
         have hok7 : Mp.Ok ⟨m.wd, (List.range m.n).map O⟩ := by have h := (errE_ok he7).1; rwa [Int.toNat_natCast] at h
         have hds := deed_step (m := ⟨m.wd, os'⟩) (m' := ⟨m.wd, (List.range m.n).map O⟩) hok hok7 rfl (by show List.length _ = os'.length; simp [hln]) hr2 hk2 hlt (by rw [← inCount_congr hrr]; exact HV1.out) (fun j hj => by rw [← inCount_congr hrr]; exact HBI.out.2 j hj) hx (by rw [show Mp.n ⟨m.wd, os'⟩ = m.n from hln]; exact hO) (fun p hp => getD_map_range O (by rw [← hln]; exact hp))
         rw [show Mp.n ⟨m.wd, os'⟩ = m.n from hln] at hds
         have HM7 : Hid (RcM w2 q9 g7 c7 m.wd m.n ((List.range m.n).map O) _ ∧ errE m.wd ((List.range m.n).map O) = 0 ∧ HulA m ⟨m.wd, (List.range m.n).map O⟩ ∧ outN ⟨m.wd, (List.range m.n).map O⟩ m.n < outN ⟨m.wd, os'⟩ m.n) := Lib.hid ⟨hM7, he7, HulA.trans (m0 := m) (m := ⟨m.wd, os'⟩) (show os'.length = m.n from hln) ⟨_, HRK.out.1⟩ hI.out.2.2.1 hds.1, hds.2⟩
         clear hM7 he7 hds hok hok7 hx hx1 hO hown hr2 hk2 hrr hpos hb7
         go_wp2_with fail
         go_roundw
         case rel => exact ⟨true, i + 1, rfl, by go_num, by omega, Lib.hid (.inr ⟨rfl, _, _, _, HM7.out⟩)⟩
         case measure => simp [intOf]; omega
        ·have g1 : ((dv : Int) == 1) = false := by rw [beq_eq_false_iff_ne]; omega
         have HN1 : Hid (∀ j, j < i + 1 → inCount ⟨m.wd, os'⟩ r1 j k1 ≠ 1) := Lib.hid fun j hj => by
          by_cases e : j = i
          ·rw [e, ← HDV.out]; exact h1
          ·exact HBI.out.2 j (by omega)
         clear h1
         go_wp2_with fail
         go_roundw
         case rel => exact ⟨false, i + 1, rfl, by go_num, by omega, Lib.hid (.inl ⟨rfl, HBI.out.1, HN1.out⟩)⟩
         case measure => simp [intOf]; omega
       ·obtain rfl : i = k1 := by omega
        clear hbi hnone hJ
        have HM6 : Hid (outN ⟨m.wd, os'⟩ m.n < gk) := Lib.hid (by have h5 := hI.out.2.2.2.2; simp only [if_true] at h5; omega)
        go_wp2_with fail
        go_roundg (outN ⟨m.wd, os'⟩ m.n)
        case rel =>
         have hln : os'.length = m.n := HI6.out.len
         have hok : Mp.Ok ⟨m.wd, os'⟩ := by have h := (errE_ok HER.out).1; rwa [Int.toNat_natCast] at h
         exact ⟨false, os', g8, c8, rfl, Lib.hid ⟨HI6.out, HER.out, hI.out.2.2.1, (fun _ => ⟨⟨_, HRK.out.1⟩, fun p hp => OutA.of HRK.out.1 (show p < os'.length by rw [hln]; exact hp) (none_deed hok HRK.out.1 HRK.out.2 HBI.out.2 (show p < os'.length by rw [hln]; exact hp))⟩), rfl⟩⟩
        case measure => exact HM6.out

 ·have z1 : (errE wd os == 0) = false := by simpa using he
  have z2 : (errE wd os != 0) = true := by simpa using he
  have HE := Lib.hid he
  obtain ⟨er, her⟩ : ∃ er, er = errE wd os := ⟨_, rfl⟩
  rw [← her] at z1 z2 ⊢
  have HER := Lib.hid her
  clear he her
  go_wp2_with fail
  have hs : Sep (fun x => x = q4) w2 ((w2.setCell ⟨q4, 0, none⟩ (.int .i64 0)).setCell ⟨q4, 1, none⟩ (.slice none 0 0)) := (Sep.set w2 q4 0 _).trans (Sep.set _ q4 1 _)
  have r0 : ((w2.setCell ⟨q4, 0, none⟩ (.int .i64 0)).setCell ⟨q4, 1, none⟩ (.slice none 0 0)).cell? ⟨q4, 0, none⟩ = some (.int .i64 0) := by rw [setCell_off _ _ (by omega)]; exact setCell_same _ _ f2
  have r1 : ((w2.setCell ⟨q4, 0, none⟩ (.int .i64 0)).setCell ⟨q4, 1, none⟩ (.slice none 0 0)).cell? ⟨q4, 1, none⟩ = some (.slice none 0 0) := setCell_same _ _ (by rw [setCell_off _ _ (by omega)]; exact f3)
  refine bodyPost_ret (results_ctt (fn := Try.f19) (p := 2) (t := 3) (u := 4) (ty := 28) rfl _ _ q4 _ rfl (rload_map r0 r1)) rfl ?_
  exact ⟨HB2.out.trans (hs.below HB2.out.size (fun x hx => by rw [hx]; have := HQ.out; omega)), .inl ⟨HE.out, by rw [← HER.out]; rfl⟩⟩
end Go.Proofs.Ytkjcnkkmhkcddaa
