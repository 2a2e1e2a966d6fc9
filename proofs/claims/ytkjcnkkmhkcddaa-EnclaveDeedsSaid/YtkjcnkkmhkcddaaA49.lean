/-
  Parts of the proof, in the order in which they build: EyC.
-/
import Derived.Test.YtkjcnkkmhkcddaaA46
import Derived.Test.YtkjcnkkmhkcddaaA14
set_option linter.unusedVariables false
set_option linter.unusedSimpArgs false
namespace Go.Proofs.Ytkjcnkkmhkcddaa
open Go.RowKit Go.Shelf
open Lim

attribute [local go_sem] Oper.semAt_some

section
variable {m : Mp} {r : Nat → Nat} {T i t : Nat} {x : Int}
theorem Dp.begin : Dp m r T i 0 (-1) := .inl ⟨rfl, fun k hk => by omega⟩
theorem Dp.skip (h : Dp m r T i t x) (hn : ¬ In m r i t) : Dp m r T i (t + 1) x := by
  rcases h with ⟨h1, h2⟩ | ⟨a, h1, h2, h3, h4⟩
  · refine .inl ⟨h1, fun k hk => ?_⟩
    by_cases e : k = t
    · rw [e]; exact hn
    · exact h2 k (by omega)
  · refine .inr ⟨a, h1, by omega, h3, fun k hk hik => ?_⟩
    by_cases e : k = t
    · rw [e] at hik; exact absurd hik hn
    · exact h4 k (by omega) hik
theorem Dp.first (h : Dp m r T i t x) (hx : x < 0) (hn : In m r i t) : Dp m r T i (t + 1) t := by
  rcases h with ⟨-, h2⟩ | ⟨a, h1, -⟩
  · refine .inr ⟨t, rfl, by omega, hn, fun k hk hik => ?_⟩
    by_cases e : k = t
    · rw [e]; exact Nat.le_refl _
    · exact absurd hik (h2 k (by omega))
  · omega
theorem Dp.deeper {a : Nat} (h : Dp m r T i t (a : Int)) (hn : In m r i t) (hd : inCount m r a T < inCount m r t T) : Dp m r T i (t + 1) t := by
  rcases h with ⟨h1, -⟩ | ⟨b, h1, h2, h3, h4⟩
  · omega
  · obtain rfl : b = a := by omega
    refine .inr ⟨t, rfl, by omega, hn, fun k hk hik => ?_⟩
    by_cases e : k = t
    · rw [e]; exact Nat.le_refl _
    · have := h4 k (by omega) hik; omega
theorem Dp.keep {a : Nat} (h : Dp m r T i t (a : Int)) (hd : ¬ inCount m r a T < inCount m r t T) : Dp m r T i (t + 1) a := by
  rcases h with ⟨h1, -⟩ | ⟨b, h1, h2, h3, h4⟩
  · omega
  · obtain rfl : b = a := by omega
    refine .inr ⟨b, rfl, by omega, h3, fun k hk hik => ?_⟩
    by_cases e : k = t
    · rw [e]; omega
    · exact h4 k (by omega) hik
theorem Dp.is (h : Dp m r T i t x) (hx : ¬ x < 0) : ∃ a : Nat, x = a ∧ a < t := by
  rcases h with ⟨h1, -⟩ | ⟨a, h1, h2, -⟩
  · omega
  · exact ⟨a, h1, h2⟩
end
open Classical in
noncomputable def inB2 (m : Mp) (r : Nat → Nat) (x y : Nat) : Bool := decide (In m r x y)
theorem inB2_iff {m : Mp} {r : Nat → Nat} {x y : Nat} : inB2 m r x y = true ↔ In m r x y := by unfold inB2; simp
theorem made_rows {w : World} {k : Nat} (hk : k ≤ 1000) : (Instr.makeSlice 73 (.int .i64 (k : Int)) (.int .i64 (k : Int))).run Try.prog w = .ok (.slice (some ⟨w.heap.size, 0, none⟩) k k) (w.alloc (.cells (Array.replicate k (.slice none 0 0)) 74)) := by
  obtain ⟨i, h0, h1, h2, h3⟩ := info_parts (show (Try.prog.info? 74).map (fun i => (i.zero, i.size, i.bytes)) = some (some (.slice none 0 0), 1, 24) by kernel_rfl)
  have h := run_make (P := Try.prog) w 73 74 i (.slice none 0 0) Try.underlying73 h0 h1 .i64 .i64 k k (by omega) (by omega) (by rw [h3]; omega) (by omega)
  rw [h, h2]
  simp only [Int.toNat_natCast, Nat.mul_one]
  have e : madeCells (Value.slice none 0 0).cells k = Array.replicate k (Value.slice none 0 0) := by
    show madeCells #[Value.slice none 0 0] k = _
    rw [← Array.toList_inj, toList_madeCells_one, Array.toList_replicate]
  rw [e]
/-- while two rows are made -/
structure MkP (w : World) (k : Nat) (d1 d3 : Bool) (x y : Value) (W : World) : Prop where
  be : Below w.heap.size w W
  r1 : d1 = true → ∃ g, x = .slice (some ⟨g, 0, none⟩) k k ∧ w.heap.size ≤ g ∧ RowC W g k (fun _ => 0)
  r3 : d3 = true → ∃ g, y = .slice (some ⟨g, 0, none⟩) k k ∧ w.heap.size ≤ g ∧ RowC W g k (fun _ => 0)
  ne : d1 = true → d3 = true → x.ownBlock ≠ y.ownBlock
section
variable {w W W' : World} {k : Nat} {d1 d3 : Bool} {x y : Value}
theorem MkP.grow (H : MkP w k d1 d3 x y W) (hb : Below W.heap.size W W') : MkP w k d1 d3 x y W' :=
  ⟨H.be.trans (hb.mono H.be.size), fun h => let ⟨g, h1, h2, h3⟩ := H.r1 h; ⟨g, h1, h2, h3.grow hb⟩, fun h => let ⟨g, h1, h2, h3⟩ := H.r3 h; ⟨g, h1, h2, h3.grow hb⟩, H.ne⟩
theorem MkP.made1 (H0 : MkP w k d1 d3 x y W) : MkP w k true d3 (.slice (some ⟨W.heap.size, 0, none⟩) k k) y (W.alloc (.cells (Array.replicate k (.int .i64 0)) 3)) := by
  have H := H0.grow ((Below.refl _ W).alloc (Nat.le_refl _) (.cells (Array.replicate k (.int .i64 0)) 3))
  refine ⟨H.be, fun _ => ⟨_, rfl, H0.be.size, RowC.made W k⟩, H.r3, fun _ h => ?_⟩
  obtain ⟨g, h1, -, h3⟩ := H0.r3 h
  have := h3.lt
  rw [h1]; simp [Value.ownBlock]; omega
theorem MkP.made3 (H0 : MkP w k d1 d3 x y W) : MkP w k d1 true x (.slice (some ⟨W.heap.size, 0, none⟩) k k) (W.alloc (.cells (Array.replicate k (.int .i64 0)) 3)) := by
  have H := H0.grow ((Below.refl _ W).alloc (Nat.le_refl _) (.cells (Array.replicate k (.int .i64 0)) 3))
  refine ⟨H.be, H.r1, fun _ => ⟨_, rfl, H0.be.size, RowC.made W k⟩, fun h _ => ?_⟩
  obtain ⟨g, h1, -, h3⟩ := H0.r1 h
  have := h3.lt
  rw [h1]; simp [Value.ownBlock]; omega
end
/-- what the reference's Depths keeps: the map, depths, around, and the first t rows of who lies within whom -/
structure DpM (w : World) (q gd ga gi k n wd : Nat) (oa : Option Addr) (oc : Nat) (D A : Nat → Int) (gr : Nat → Nat) (T : Nat → Nat → Bool) (t : Nat) (W : World) : Prop where
  be : Below w.heap.size w W
  c0 : W.cell? ⟨q, 0, none⟩ = some (.int .i64 wd)
  c1 : W.cell? ⟨q, 1, none⟩ = some (.slice oa n oc)
  rd : RowC W gd k D
  ra : RowC W ga k A
  ri : ∀ x, x < k → (∃ v, W.cell? ⟨gi, x, none⟩ = some v) ∧ W.frozen? ⟨gi, x, none⟩ = false
  rt : ∀ x, x < t → W.cell? ⟨gi, x, none⟩ = some (.slice (some ⟨gr x, 0, none⟩) k k) ∧ RowB W (gr x) k (T x)
  lt : (w.heap.size ≤ gd ∧ w.heap.size ≤ ga) ∧ q < gd ∧ q < ga ∧ gd ≠ ga ∧ gd < gi ∧ ga < gi ∧ gi < W.heap.size
  lg : ∀ x, x < t → gi < gr x ∧ ∀ y, y < t → x ≠ y → gr x ≠ gr y
section
variable {w W W' : World} {q gd ga gi k n wd : Nat} {oa : Option Addr} {oc : Nat} {D A : Nat → Int} {gr : Nat → Nat} {T : Nat → Nat → Bool} {t : Nat}
theorem DpM.on (h : DpM w q gd ga gi k n wd oa oc D A gr T t W) (hb : Below W.heap.size W W') : DpM w q gd ga gi k n wd oa oc D A gr T t W' :=
  ⟨h.be.trans (hb.mono h.be.size), hb.on h.c0, hb.on h.c1, h.rd.grow hb, h.ra.grow hb, fun x hx => let ⟨⟨v, h1⟩, h2⟩ := h.ri x hx; ⟨⟨v, hb.on h1⟩, frozen_on hb h1 h2⟩, fun x hx => ⟨hb.on (h.rt x hx).1, (h.rt x hx).2.grow hb⟩, ⟨h.lt.1, h.lt.2.1, h.lt.2.2.1, h.lt.2.2.2.1, h.lt.2.2.2.2.1, h.lt.2.2.2.2.2.1, Nat.lt_of_lt_of_le h.lt.2.2.2.2.2.2 hb.size⟩, h.lg⟩
theorem DpM.putD (h : DpM w q gd ga gi k n wd oa oc D A gr T t W) {x : Nat} (hx : x < k) (v : Int) : DpM w q gd ga gi k n wd oa oc (upd D x v) A gr T t (W.setCell ⟨gd, x, none⟩ (.int .i64 v)) := by
  have hs := Sep.set W gd x (.int .i64 v)
  have l := h.lt
  exact ⟨h.be.setCell (p := ⟨gd, x, none⟩) (by show w.heap.size ≤ gd; omega) _, hs.cell h.c0 (by omega), hs.cell h.c1 (by omega), h.rd.put hx v, h.ra.sep hs (by omega), fun y hy => let ⟨⟨u, h1⟩, h2⟩ := h.ri y hy; ⟨⟨u, hs.cell h1 (by omega)⟩, hs.frozen h1 (by omega) h2⟩, fun y hy => ⟨hs.cell (h.rt y hy).1 (by omega), (h.rt y hy).2.sep hs (by have := (h.lg y hy).1; omega)⟩, ⟨l.1, l.2.1, l.2.2.1, l.2.2.2.1, l.2.2.2.2.1, l.2.2.2.2.2.1, Nat.lt_of_lt_of_le l.2.2.2.2.2.2 hs.size⟩, h.lg⟩
theorem DpM.putA (h : DpM w q gd ga gi k n wd oa oc D A gr T t W) {x : Nat} (hx : x < k) (v : Int) : DpM w q gd ga gi k n wd oa oc D (upd A x v) gr T t (W.setCell ⟨ga, x, none⟩ (.int .i64 v)) := by
  have hs := Sep.set W ga x (.int .i64 v)
  have l := h.lt
  exact ⟨h.be.setCell (p := ⟨ga, x, none⟩) (by show w.heap.size ≤ ga; omega) _, hs.cell h.c0 (by omega), hs.cell h.c1 (by omega), h.rd.sep hs (by omega), h.ra.put hx v, fun y hy => let ⟨⟨u, h1⟩, h2⟩ := h.ri y hy; ⟨⟨u, hs.cell h1 (by omega)⟩, hs.frozen h1 (by omega) h2⟩, fun y hy => ⟨hs.cell (h.rt y hy).1 (by omega), (h.rt y hy).2.sep hs (by have := (h.lg y hy).1; omega)⟩, ⟨l.1, l.2.1, l.2.2.1, l.2.2.2.1, l.2.2.2.2.1, l.2.2.2.2.2.1, Nat.lt_of_lt_of_le l.2.2.2.2.2.2 hs.size⟩, h.lg⟩
/-- an answer is written -/
theorem DpM.putT (h : DpM w q gd ga gi k n wd oa oc D A gr T t W) {x y : Nat} (hx : x < t) (hy : y < k) (v : Bool) : DpM w q gd ga gi k n wd oa oc D A gr (fun a b => if a = x ∧ b = y then v else T a b) t (W.setCell ⟨gr x, y, none⟩ (.bool v)) := by
  have hs := Sep.set W (gr x) y (.bool v)
  have l := h.lt
  have hg := (h.lg x hx).1
  refine ⟨h.be.setCell (p := ⟨gr x, y, none⟩) (by show w.heap.size ≤ gr x; omega) _, hs.cell h.c0 (by omega), hs.cell h.c1 (by omega), h.rd.sep hs (by omega), h.ra.sep hs (by omega), fun z hz => let ⟨⟨u, h1⟩, h2⟩ := h.ri z hz; ⟨⟨u, hs.cell h1 (by omega)⟩, hs.frozen h1 (by omega) h2⟩, fun z hz => ⟨hs.cell (h.rt z hz).1 (by omega), ?_⟩, ⟨l.1, l.2.1, l.2.2.1, l.2.2.2.1, l.2.2.2.2.1, l.2.2.2.2.2.1, Nat.lt_of_lt_of_le l.2.2.2.2.2.2 hs.size⟩, h.lg⟩
  by_cases e : z = x
  · subst e
    exact ((h.rt z hz).2.put hy v).congr (fun b _ => by simp)
  · exact ((h.rt z hz).2.sep hs ((h.lg z hz).2 x hx e)).congr (fun b _ => by simp [e])
theorem DpM.congr (h : DpM w q gd ga gi k n wd oa oc D A gr T t W) {D' : Nat → Int} {T' : Nat → Nat → Bool} (eD : ∀ x, x < k → D x = D' x) (eT : ∀ x y, x < t → y < k → T x y = T' x y) : DpM w q gd ga gi k n wd oa oc D' A gr T' t W :=
  ⟨h.be, h.c0, h.c1, h.rd.congr eD, h.ra, h.ri, fun x hx => ⟨(h.rt x hx).1, (h.rt x hx).2.congr (fun y hy => eT x y hx hy)⟩, h.lt, h.lg⟩
/-- one row more -/
theorem DpM.row (h0 : DpM w q gd ga gi k n wd oa oc D A gr T t W) (ht : t < k) : DpM w q gd ga gi k n wd oa oc D A (fun x => if x = t then W.heap.size else gr x) (fun x y => if x = t then false else T x y) (t + 1) ((W.alloc (.cells (Array.replicate k (.bool false)) 4)).setCell ⟨gi, t, none⟩ (.slice (some ⟨W.heap.size, 0, none⟩) k k)) := by
  have hb : Below W.heap.size W (W.alloc (.cells (Array.replicate k (.bool false)) 4)) := (Below.refl _ W).alloc (Nat.le_refl _) _
  have h := h0.on hb
  have hn := RowB.made W k
  have l0 := h0.lt
  generalize W.alloc (.cells (Array.replicate k (.bool false)) 4) = W1 at h hn
  have hs := Sep.set W1 gi t (.slice (some ⟨W.heap.size, 0, none⟩) k k)
  have l := h.lt
  refine ⟨h.be.setCell (p := ⟨gi, t, none⟩) (by show w.heap.size ≤ gi; omega) _, hs.cell h.c0 (by omega), hs.cell h.c1 (by omega), h.rd.sep hs (by omega), h.ra.sep hs (by omega), fun y hy => ?_, fun y hy => ?_, ⟨l.1, l.2.1, l.2.2.1, l.2.2.2.1, l.2.2.2.2.1, l.2.2.2.2.2.1, Nat.lt_of_lt_of_le l.2.2.2.2.2.2 hs.size⟩, fun y hy => ?_⟩
  · obtain ⟨⟨u, h1⟩, h2⟩ := h.ri y hy
    refine ⟨?_, by rw [World.frozen?_setCell]; exact h2⟩
    by_cases e : y = t
    · subst e; exact ⟨_, setCell_same _ _ h1⟩
    · exact ⟨u, (setCell_off _ _ (fun e' => e e'.symm)).trans h1⟩
  · by_cases e : y = t
    · subst e
      obtain ⟨⟨u, h1⟩, -⟩ := h.ri y ht
      simp only [if_true]
      exact ⟨setCell_same _ _ h1, hn.sep hs (by omega)⟩
    · simp only [if_neg e]
      have hy' : y < t := by omega
      exact ⟨(setCell_off _ _ (fun e' => e e'.symm)).trans (h.rt y hy').1, (h.rt y hy').2.sep hs (by have := (h.lg y hy').1; omega)⟩
  · have old : ∀ z, z < t → gi < gr z ∧ gr z < W.heap.size := fun z hz => ⟨(h0.lg z hz).1, (h0.rt z hz).2.lt⟩
    by_cases e : y = t
    · subst e
      simp only [if_true]
      refine ⟨by omega, fun z hz hne => ?_⟩
      rw [if_neg (fun e => hne e.symm)]
      have := old z (by omega); omega
    · simp only [if_neg e]
      have hy' : y < t := by omega
      refine ⟨(h0.lg y hy').1, fun z hz hne => ?_⟩
      by_cases e2 : z = t
      · rw [if_pos e2]; have := old y hy'; omega
      · rw [if_neg e2]; exact (h0.lg y hy').2 z (by omega) hne
end
/-- what is known at region i, behind its first j ones -/
noncomputable def dSt (m : Mp) (r : Nat → Nat) (k i j x : Nat) : Int := if x < i then (inCount m r x k : Int) else if x = i then (inCount m r i j : Int) else 0
noncomputable def tSt (m : Mp) (r : Nat → Nat) (i j x y : Nat) : Bool := (decide (x < i) || (decide (x = i) && decide (y < j))) && inB2 m r x y
/-- what the reference's Depths answers -/
def RDeAns (wd : Int) (os : List Int) (w : World) (e : Ending) (w' : World) : Prop :=
  Below w.heap.size w w' ∧ ((errE wd os ≠ 0 ∧ e = .returned (.tuple #[.slice none 0 0, .slice none 0 0, .int .i64 (errE wd os)])) ∨
    (errE wd os = 0 ∧ ∃ (g1 g2 : Nat) (r : Nat → Nat) (k : Nat) (A : Nat → Int), e = .returned (.tuple #[.slice (some ⟨g1, 0, none⟩) k k, .slice (some ⟨g2, 0, none⟩) k k, .int .i64 0]) ∧ IsReg ⟨wd.toNat, os⟩ r ∧ IsMany ⟨wd.toNat, os⟩ r k ∧ (∀ i, i < k → IsAr ⟨wd.toNat, os⟩ r i k (A i)) ∧
      RS w'.heap.size w' (.slice (some ⟨g1, 0, none⟩) k k) k (ints (depL ⟨wd.toNat, os⟩ r k)) ∧ RS w'.heap.size w' (.slice (some ⟨g2, 0, none⟩) k k) k (ints ((List.range k).map A))))
set_option maxRecDepth 20000 in
set_option maxHeartbeats 8000000 in
theorem rDepths_any {B : Nat} {wd : Int} {ov : Value} {os : List Int} {w : World} (hl : os.length ≤ 100000) (hB : B ≤ w.heap.size) (hv : RS B w ov os.length (ints os)) :
    Calls Try.prog 30 #[.agg #[.int .i64 wd, ov]] w fun e w' => RDeAns wd os w e w' := by
  have hb := (Below.refl w.heap.size w).alloc (Nat.le_refl _) (.cells #[.int .i64 wd, ov] 28)
  have HRG := Lib.hid (rRegions_any (wd := wd) (w := w.alloc (.cells #[.int .i64 wd, ov] 28)) hl (Nat.le_trans hB hb.size) (hv.below (hb.mono hB)))
  obtain ⟨oa, oc, rfl, -⟩ := hv
  have f0 : (w.alloc (.cells #[.int .i64 wd, .slice oa os.length oc] 28)).cell? ⟨w.heap.size, 0, none⟩ = some (.int .i64 wd) := by simp [go_sem]
  have f1 : (w.alloc (.cells #[.int .i64 wd, .slice oa os.length oc] 28)).cell? ⟨w.heap.size, 1, none⟩ = some (.slice oa os.length oc) := by simp [go_sem]
  have HB := Lib.hid hb
  clear hb hB hl
  go_enter Try.func30, Try.ntmps30
  go_wp2_with fail
  generalize w.alloc (.cells #[.int .i64 wd, .slice oa os.length oc] 28) = w1 at HB HRG f0 f1 ⊢
  refine HRG.out.mono ?_
  rintro e w2 ⟨hb, h⟩
  replace f0 := hb.on f0
  replace f1 := hb.on f1
  have HB2 := Lib.hid (HB.out.trans (hb.mono HB.out.size))
  clear hb HB HRG w1
  rcases h with ⟨he, rfl⟩ | ⟨he, v, r, k, rfl, hr, hk, hvr⟩
  · have g1 : (errE wd os != 0) = true := by simpa using he
    have HE := Lib.hid he
    obtain ⟨er, her⟩ : ∃ er, er = errE wd os := ⟨_, rfl⟩
    rw [← her] at g1 ⊢
    have HER := Lib.hid her
    clear her he
    go_wp2_with fail
    go_ret3
    exact ⟨HB2.out, .inl ⟨HE.out, by rw [← HER.out]; rfl⟩⟩
  · obtain ⟨m, hm⟩ : ∃ m : Mp, m = ⟨wd.toNat, os⟩ := ⟨_, rfl⟩
    have HM : Hid (m.Ok ∧ m.n ≤ 100) := Lib.hid (by rw [hm]; exact ⟨(errE_ok he).1, (errE_ok he).1.n1⟩)
    have hwd : wd = (m.wd : Int) := by rw [hm]; exact (errE_ok he).2
    have hos : os = m.os := by rw [hm]
    have HFIN : Hid (∀ (g1 g2 : Nat) (A : Nat → Int) (W : World), Below w.heap.size w W → (∀ i, i < k → IsAr m r i k (A i)) → RS W.heap.size W (.slice (some ⟨g1, 0, none⟩) k k) k (ints (depL m r k)) → RS W.heap.size W (.slice (some ⟨g2, 0, none⟩) k k) k (ints ((List.range k).map A)) → RDeAns wd os w (.returned (.tuple #[.slice (some ⟨g1, 0, none⟩) k k, .slice (some ⟨g2, 0, none⟩) k k, .int .i64 0])) W) := Lib.hid (fun g1 g2 A W h1 h2 h3 h4 => by
      rw [hm] at h2 h3
      exact ⟨h1, .inr ⟨he, g1, g2, r, k, A, rfl, hr, hk, h2, h3, h4⟩⟩)
    have hr' : IsReg m r := by rw [hm]; exact hr
    have hk' : IsMany m r k := by rw [hm]; exact hk
    clear hm hr hk he
    subst hwd hos
    have hvr : RS w2.heap.size w2 v m.n (ints (regL r m.n)) := hvr
    obtain ⟨gl, ol, cl, rfl, -, -⟩ := reg_cell hvr HM.out.1.n0
    have hk100 : k ≤ 100 := by have := hk'.le; have := HM.out.2; omega
    have HRK := Lib.hid (And.intro hr' hk')
    have HMN : Hid (∀ W, Below w2.heap.size w2 W → Calls Try.prog 65 #[.slice (some ⟨gl, ol, none⟩) m.n cl] W fun e w' => e = .returned (.int .i64 (k : Nat)) ∧ w' = W) := Lib.hid fun W hW => rmany_reg HM.out.1 hr' hk' (hvr.below hW)
    have HWI : Hid (∀ (a b : Nat) W, Below w2.heap.size w2 W → Calls Try.prog 66 #[.agg #[.int .i64 m.wd, .slice oa m.n oc], .slice (some ⟨gl, ol, none⟩) m.n cl, .int .i64 a, .int .i64 b] W fun e w' => WiAns m r a b W e w') := Lib.hid fun a b W hW => rwithin_any (B := w2.heap.size) HM.out.1 hW.size (hvr.below hW)
    have hnn : m.os.length = m.n := rfl
    rw [hnn] at f1 ⊢
    clear hvr hr' hk' hnn
    obtain ⟨q, hq⟩ : ∃ q, q = w.heap.size := ⟨_, rfl⟩
    have HQ : Hid (q = w.heap.size ∧ q < w2.heap.size) := Lib.hid ⟨hq, by rw [hq]; exact World.block_lt_of_cell? _ _ f0⟩
    rw [← hq] at f0 f1 ⊢
    clear hq
    go_wp2_with fail
    refine (HMN.out _ (Below.refl _ _)).mono ?_
    rintro e w3 ⟨rfl, rfl⟩
    clear HMN
    go_upto_region 5 with (fail)
    have hC : (fun W => W.cell? ⟨q, 0, none⟩ = some (.int .i64 m.wd) ∧ W.cell? ⟨q, 1, none⟩ = some (.slice oa m.n oc)) w3.drew := ⟨f0, f1⟩
    refine Lim.regC' (fun W => W.cell? ⟨q, 0, none⟩ = some (.int .i64 m.wd) ∧ W.cell? ⟨q, 1, none⟩ = some (.slice oa m.n oc)) [] #[false, false, false, false, false, false] (by kernel_rfl) rfl ?_
    refine Lim.stepR 0 (fun _ => trivial) rfl (by kernel_rfl) (fun _ _ _ _ h => h) hC rfl ?_; apply Exists.intro; refine ⟨?_, ?_⟩
    · rintro w ⟨r0, r1⟩; go_simp; try with_reducible rfl
    simp only [Act.put, List.setIfInBounds_toArray, List.set_cons_succ, List.set_cons_zero]
    refine Lim.stepR 2 (fun _ => trivial) rfl (by kernel_rfl) (fun _ _ _ _ h => h) hC rfl ?_; apply Exists.intro; refine ⟨?_, ?_⟩
    · rintro w ⟨r0, r1⟩; go_simp; try with_reducible rfl
    simp only [Act.put, List.setIfInBounds_toArray, List.set_cons_succ, List.set_cons_zero]
    clear hC
    refine Lim.parC [1, 3, 4, 5] (fun done a W => ∃ x y u v, a = { tmps := #[.agg #[.int .i64 m.wd, .slice oa m.n oc], .pointer (some ⟨q, 0, none⟩), .slice none 0 0, .slice none 0 0, .int .i64 0, .slice (some ⟨gl, ol, none⟩) m.n cl, .int .i64 0, .int .i64 k, u, v, undef, undef, undef, undef, undef, .tuple #[.slice (some ⟨gl, ol, none⟩) m.n cl, .int .i64 0], .agg #[.int .i64 m.wd, .slice oa m.n oc], .tuple #[.slice (some ⟨gl, ol, none⟩) m.n cl, .int .i64 0], .slice (some ⟨gl, ol, none⟩) m.n cl, .int .i64 0, .int .i64 0, .bool false, undef, .slice (some ⟨gl, ol, none⟩) m.n cl, .int .i64 k, .int .i64 k, x, .int .i64 k, y, undef, undef, undef, undef, undef, undef, undef, undef, undef, undef, undef, undef, undef, undef, undef, undef, undef, undef, undef, undef, undef, undef, undef, undef, undef, undef, undef, undef, undef, undef, undef, undef, undef, undef, undef, undef, undef, undef, undef, undef, undef, undef, undef, undef, undef, undef, undef, undef, undef, undef, undef, undef, undef, undef, undef, undef, undef, undef, undef, undef, undef, undef, undef, undef, undef, undef, undef, undef, undef, undef, undef, undef, undef, undef, undef, undef, undef, undef, undef, undef, undef, undef, undef, undef, undef, undef, undef, undef], defers := [] } ∧ MkP w3.drew k (done 1) (done 3) x y W ∧ (fun W => W.cell? ⟨q, 0, none⟩ = some (.int .i64 m.wd) ∧ W.cell? ⟨q, 1, none⟩ = some (.slice oa m.n oc)) W ∧ (done 4 = true → done 1 = true ∧ u = x) ∧ (done 5 = true → done 4 = true ∧ done 3 = true ∧ v = y)) (fun _ => trivial) (by kernel_rfl) rfl rfl ?hC ?step ?fin ⟨_, _, _, _, rfl, ?st, ⟨f0, f1⟩, fun h => (by cases h), fun h => (by cases h)⟩
    case st => exact ⟨Below.refl _ _, fun h => (by cases h), fun h => (by cases h), fun h => (by cases h)⟩
    case hC => rintro done a W ⟨_, _, _, _, -, -, hc, -, -⟩; exact hc
    case step =>
      intro i o hi ho done a W hd hdep hS K hK
      obtain ⟨x, y, u, v, rfl, H, ⟨hc0, hc1⟩, e4, e5⟩ := hS
      simp only [List.mem_cons, List.not_mem_nil, or_false] at hi
      rcases hi with rfl | rfl | rfl | rfl
      · cases ho
        have n4 : done 4 = false := by
          cases h : done 4 with
          | false => rfl
          | true => exact absurd (e4 h).1 (by rw [hd]; decide)
        have n5 : done 5 = false := by
          cases h : done 5 with
          | false => rfl
          | true => exact absurd (e5 h).1 (by rw [n4]; decide)
        clear hdep
        obtain ⟨i0, hi, hz0, hz1, hz2⟩ := info_parts Try.infoInt
        have hmk := made_ints (w := W) (n := k) ⟨hi, hz0, hz1, hz2⟩ (by omega)
        clear hi hz0 hz1 hz2
        go_simp
        refine hK _ _ ?_
        have hb : Below W.heap.size W (W.alloc (.cells (Array.replicate k (.int .i64 0)) 3)) := (Below.refl _ W).alloc (Nat.le_refl _) _
        exact ⟨_, y, u, v, rfl, H.made1, ⟨hb.on hc0, hb.on hc1⟩, fun h => (by have h : done 4 = true := h; rw [n4] at h; cases h), fun h => (by have h : done 5 = true := h; rw [n5] at h; cases h)⟩
      · cases ho
        have n5 : done 5 = false := by
          cases h : done 5 with
          | false => rfl
          | true => exact absurd (e5 h).2.1 (by rw [hd]; decide)
        clear hdep
        obtain ⟨i0, hi, hz0, hz1, hz2⟩ := info_parts Try.infoInt
        have hmk := made_ints (w := W) (n := k) ⟨hi, hz0, hz1, hz2⟩ (by omega)
        clear hi hz0 hz1 hz2
        go_simp
        refine hK _ _ ?_
        have hb : Below W.heap.size W (W.alloc (.cells (Array.replicate k (.int .i64 0)) 3)) := (Below.refl _ W).alloc (Nat.le_refl _) _
        exact ⟨x, _, u, v, rfl, H.made3, ⟨hb.on hc0, hb.on hc1⟩, e4, fun h => (by have h : done 5 = true := h; rw [n5] at h; cases h)⟩
      · cases ho
        have h1 := hdep 1 (by kernel_rfl) (by simp)
        clear hdep
        go_simp
        refine hK _ _ ?_
        exact ⟨x, y, _, v, rfl, H, ⟨hc0, hc1⟩, fun _ => ⟨h1, rfl⟩, fun h => (by have h : done 5 = true := h; exact absurd (e5 h).1 (by rw [hd]; decide))⟩
      · cases ho
        have h4 := hdep 4 (by kernel_rfl) (by simp)
        have h3 := hdep 3 (by kernel_rfl) (by simp)
        obtain ⟨h1, rfl⟩ := e4 h4
        clear hdep e4
        go_simp
        refine hK _ _ ?_
        exact ⟨_, y, _, _, rfl, H, ⟨hc0, hc1⟩, fun _ => ⟨h1, rfl⟩, fun _ => ⟨h4, h3, rfl⟩⟩
    case fin =>
      rintro done a W hall ⟨x, y, u, v, rfl, H, ⟨hc0, hc1⟩, e4, e5⟩
      obtain ⟨gd, rfl, hgd, hD⟩ := H.r1 (hall 1 (by simp))
      obtain ⟨ga, rfl, hga, hA⟩ := H.r3 (hall 3 (by simp))
      obtain ⟨-, rfl⟩ := e4 (hall 4 (by simp))
      obtain ⟨-, -, rfl⟩ := e5 (hall 5 (by simp))
      have hne := H.ne (hall 1 (by simp)) (hall 3 (by simp))
      have hbW := HB2.out.drew.trans (H.be.mono HB2.out.drew.size)
      have H0 : Hid (DpM w3 q gd ga W.heap.size k m.n m.wd oa oc (fun _ => 0) (fun _ => 0) (fun _ => 0) (fun _ _ => false) 0 (W.alloc (.cells (Array.replicate k (.slice none 0 0)) 74))) := Lib.hid (by
        have hb : Below W.heap.size W (W.alloc (.cells (Array.replicate k (.slice none 0 0)) 74)) := (Below.refl _ W).alloc (Nat.le_refl _) _
        have l1 := hD.lt
        have l2 := hA.lt
        have l3 := HQ.out
        have l4 : w3.heap.size ≤ gd := hgd
        have l5 : w3.heap.size ≤ ga := hga
        have hb3 : Below w3.heap.size w3 W := (Below.refl _ w3).drew.trans H.be
        refine ⟨hb3.trans (hb.mono hb3.size), hb.on hc0, hb.on hc1, hD.grow hb, hA.grow hb, fun x hx => ⟨⟨.slice none 0 0, ?_⟩, World.frozen?_alloc_new ..⟩, fun x hx => by omega, ⟨⟨l4, l5⟩, by omega, by omega, fun e => hne (by simp [Value.ownBlock, e]), l1, l2, by simp⟩, fun x hx => by omega⟩
        rw [World.cell?_alloc_new, Array.getElem?_replicate, if_pos hx])
      have HBW : Hid (Below w3.heap.size w3 W) := Lib.hid ((Below.refl _ w3).drew.trans H.be)
      have hmk := made_rows (w := W) (k := k) (by omega)
      clear H hall hD hA hgd hga hne hc0 hc1 e4 e5 f0 f1 hbW
      go_wp2_with fail
      clear hmk
      generalize W.alloc (.cells (Array.replicate k (.slice none 0 0)) 74) = w5 at H0 ⊢
      obtain ⟨gi, hgi⟩ : ∃ g, g = W.heap.size := ⟨_, rfl⟩
      have HGI : Hid (w3.heap.size ≤ gi) := Lib.hid (by rw [hgi]; exact HBW.out.size)
      rw [← hgi] at H0 ⊢
      clear hgi
      go_loopw [11] (fun v wr => ∃ (i : Nat) (gr : Nat → Nat), i ≤ k ∧ v = .int .i64 i ∧ Hid (DpM w3 q gd ga gi k m.n m.wd oa oc (dSt m r k i 0) (fun _ => 0) gr (tSt m r i 0) i wr)) (fun v _ => k - (intOf v).toNat)
      case atStart => exact ⟨0, _, Nat.zero_le _, rfl, Lib.hid (H0.out.congr (fun x _ => by unfold dSt; rw [if_neg (by omega)]; by_cases e : x = 0 <;> simp [e, inCount]) (fun x y hx => by omega))⟩
      case round =>
        clear H0
        obtain ⟨i, gr, hi, rfl, hI⟩ := hrel
        have hi64 : (i : Int) ≤ 100 := by omega
        by_cases hik : i < k
        · have hik64 : (i : Int) < k := by omega
          have hmk : (Instr.makeSlice 74 (.int .i64 (k : Int)) (.int .i64 (k : Int))).run Try.prog wr = .ok (.slice (some ⟨wr.heap.size, 0, none⟩) k k) (wr.alloc (.cells (Array.replicate k (.bool false)) 4)) := by
            obtain ⟨i0, h1, h2, h3, h4⟩ := info_parts Try.infoBool
            exact made_bools ⟨h1, h2, h3, h4⟩ (by omega)
          have hbn : Below wr.heap.size wr (wr.alloc (.cells (Array.replicate k (.bool false)) 4)) := (Below.refl _ _).alloc (Nat.le_refl _) _
          obtain ⟨⟨u0, hu0⟩, hf0⟩ := hI.out.ri i hik
          have ci := hbn.on hu0
          have fi := frozen_on hbn hu0 hf0
          have HR := Lib.hid (hI.out.row hik)
          obtain ⟨g2, hg2⟩ : ∃ g2 : Nat → Nat, g2 = fun x => if x = i then wr.heap.size else gr x := ⟨_, rfl⟩
          rw [← hg2] at HR
          have HR2 : Hid (DpM w3 q gd ga gi k m.n m.wd oa oc (dSt m r k i 0) (fun _ => 0) g2 (tSt m r i 0) (i + 1) ((wr.alloc (.cells (Array.replicate k (.bool false)) 4)).setCell ⟨gi, i, none⟩ (.slice (some ⟨wr.heap.size, 0, none⟩) k k))) := Lib.hid (HR.out.congr (fun _ _ => rfl) (fun x y hx hy => by
            unfold tSt
            by_cases e : x = i
            · rw [if_pos e, decide_eq_false (show ¬ x < i by omega)]; simp
            · rw [if_neg e]))
          clear hbn hu0 hf0 HR hg2 hI
          go_wp2_with fail
          clear hmk ci fi
          generalize (wr.alloc (.cells (Array.replicate k (.bool false)) 4)).setCell ⟨gi, i, none⟩ (.slice (some ⟨wr.heap.size, 0, none⟩) k k) = w6 at HR2 ⊢
          obtain ⟨wo, rfl⟩ : ∃ wo : World, wo = wr := ⟨_, rfl⟩
          go_loopw [12] (fun v wr => ∃ j : Nat, j ≤ k ∧ v = .int .i64 j ∧ Hid (DpM w3 q gd ga gi k m.n m.wd oa oc (dSt m r k i j) (fun _ => 0) g2 (tSt m r i j) (i + 1) wr)) (fun v _ => k - (intOf v).toNat)
          case atStart => exact ⟨0, Nat.zero_le _, rfl, HR2⟩
          case round =>
            clear HR2
            obtain ⟨j, hj, rfl, hJ⟩ := hrel
            have hj64 : (j : Int) ≤ 100 := by omega
            by_cases hjk : j < k
            · have hjk64 : (j : Int) < k := by omega
              have hskip : ¬ In m r i j → ∀ W, DpM w3 q gd ga gi k m.n m.wd oa oc (dSt m r k i j) (fun _ => 0) g2 (tSt m r i j) (i + 1) W → DpM w3 q gd ga gi k m.n m.wd oa oc (dSt m r k i (j + 1)) (fun _ => 0) g2 (tSt m r i (j + 1)) (i + 1) W := fun hn W h => h.congr (fun x _ => by
                unfold dSt; rw [inCount_skip hn]) (fun x y hx hy => by
                unfold tSt
                by_cases e : x = i ∧ y = j
                · obtain ⟨rfl, rfl⟩ := e
                  have : inB2 m r x y = false := by cases h : inB2 m r x y with
                    | false => rfl
                    | true => exact absurd (inB2_iff.1 h) hn
                  rw [this]; simp
                · congr 1
                  congr 1
                  by_cases e1 : x = i
                  · have : (decide (y < j)) = decide (y < j + 1) := decide_eq_decide.2 (by omega)
                    rw [this]
                  · rw [decide_eq_false e1]; simp)
              have HSK := Lib.hid hskip
              clear hskip
              by_cases hij : i = j
              · have d1 : ((i : Int) != j) = false := by simp [hij]
                have d2 : (i != j) = false := by simp [hij]
                have HN := Lib.hid (HSK.out (fun h => h.1 hij) _ hJ.out)
                clear hij hJ
                go_wp2_with fail
                go_roundw
                case rel => exact ⟨j + 1, by omega, by go_num, HN⟩
                case measure => simp [intOf]; omega
              · have d1 : ((i : Int) != j) = true := by simp; omega
                have d2 : (i != j) = true := by simpa using hij
                have HIJ := Lib.hid hij
                clear hij
                have hc0 := hJ.out.c0
                have hc1 := hJ.out.c1
                have hbw : Below w3.heap.size w3 wr := hJ.out.be
                have HW := Lib.hid (HWI.out i j wr hbw)
                clear hbw
                go_wp2_with fail
                refine HW.out.mono ?_
                rintro e w7 ⟨⟨z, rfl, hz⟩, hb7⟩
                have HP := Lib.hid (hJ.out.on hb7)
                have HZ : Hid (z = true ↔ In m r i j) := Lib.hid (hz.trans ⟨fun h => ⟨HIJ.out, h⟩, fun h => h.2⟩)
                clear hz hb7 HW hc0 hc1 hJ d1 d2
                cases z with
                | false =>
                  have HN := Lib.hid (HSK.out (fun h => by have := HZ.out.2 h; cases this) _ HP.out)
                  go_wp2_with fail
                  go_roundw
                  case rel => exact ⟨j + 1, by omega, by go_num, HN⟩
                  case measure => simp [intOf]; omega
                | true =>
                  have hin := HZ.out.1 rfl
                  obtain ⟨gx, hgx⟩ : ∃ g, g = g2 i := ⟨_, rfl⟩
                  obtain ⟨d, hd⟩ : ∃ d, d = inCount m r i j := ⟨_, rfl⟩
                  have hd100 : d ≤ 100 := by rw [hd]; exact Nat.le_trans (inCount_le j) (by omega)
                  obtain ⟨cg, rb⟩ := HP.out.rt i (by omega)
                  have cb := rb.c j hjk
                  have fb := rb.f j hjk
                  have HP2 := HP.out.putT (x := i) (y := j) (by omega) hjk true
                  rw [← hgx] at cg cb fb HP2
                  have cd := HP2.rd.c i hik
                  have fd := HP2.rd.f i hik
                  have ed : dSt m r k i j i = (d : Int) := by unfold dSt; rw [if_neg (by omega), if_pos rfl, hd]
                  rw [ed] at cd
                  have HN : Hid (DpM w3 q gd ga gi k m.n m.wd oa oc (dSt m r k i (j + 1)) (fun _ => 0) g2 (tSt m r i (j + 1)) (i + 1) ((w7.setCell ⟨gx, j, none⟩ (.bool true)).setCell ⟨gd, i, none⟩ (.int .i64 ((d : Int) + 1)))) := Lib.hid ((HP2.putD hik ((d : Int) + 1)).congr (fun x _ => by
                    unfold upd dSt
                    by_cases e : x = i
                    · rw [if_pos e, if_neg (by omega), if_pos e, inCount_add hin, ← hd]; rfl
                    · rw [if_neg e]
                      by_cases e2 : x < i
                      · rw [if_pos e2, if_pos e2]
                      · rw [if_neg e2, if_neg e, if_neg e2, if_neg e]) (fun x y hx hy => by
                    unfold tSt
                    by_cases e : x = i ∧ y = j
                    · rw [if_pos e]
                      obtain ⟨rfl, rfl⟩ := e
                      rw [inB2_iff.2 hin]; simp
                    · rw [if_neg e]
                      congr 1
                      congr 1
                      by_cases e1 : x = i
                      · have : (decide (y < j)) = decide (y < j + 1) := decide_eq_decide.2 (by omega)
                        rw [this]
                      · rw [decide_eq_false e1]; simp))
                  clear hgx hd rb HP2 ed hin HSK HP
                  go_wp2_with fail
                  go_roundw
                  case rel => exact ⟨j + 1, by omega, by go_num, HN⟩
                  case measure => simp [intOf]; omega
            · have hj' : ¬ (j : Int) < k := by omega
              obtain rfl : j = k := by omega
              have HN : Hid (DpM w3 q gd ga gi j m.n m.wd oa oc (dSt m r j (i + 1) 0) (fun _ => 0) g2 (tSt m r (i + 1) 0) (i + 1) wr) := Lib.hid (hJ.out.congr (fun x _ => by
                unfold dSt
                by_cases e : x < i
                · rw [if_pos e, if_pos (by omega)]
                · rw [if_neg e]
                  by_cases e2 : x = i
                  · rw [if_pos e2, if_pos (by omega), e2]
                  · rw [if_neg e2, if_neg (by omega)]
                    by_cases e3 : x = i + 1
                    · rw [if_pos e3]; rfl
                    · rw [if_neg e3]) (fun x y hx hy => by
                unfold tSt
                congr 1
                rw [decide_eq_true hx]
                by_cases e : x < i
                · rw [decide_eq_true e]; simp
                · rw [decide_eq_true (show x = i by omega), decide_eq_true hy]; simp))
              clear hJ
              go_wp2_with fail
              go_roundw
              case rel => exact ⟨i + 1, g2, by omega, by go_num, HN⟩
              case measure => simp [intOf]; omega
        · have hi' : ¬ (i : Int) < k := by omega
          obtain rfl : i = k := by omega
          have HN : Hid (DpM w3 q gd ga gi i m.n m.wd oa oc (fun x => (inCount m r x i : Int)) (fun _ => 0) gr (inB2 m r) i wr) := Lib.hid (hI.out.congr (fun x hx => by unfold dSt; rw [if_pos hx]) (fun x y hx hy => by unfold tSt; rw [decide_eq_true hx]; simp))
          clear hI
          go_wp2_with fail
          obtain ⟨wo, rfl⟩ : ∃ wo : World, wo = wr := ⟨_, rfl⟩
          obtain ⟨k, rfl⟩ : ∃ k', k' = i := ⟨_, rfl⟩
          go_loopw [13] (fun v wr => ∃ (i : Nat) (A : Nat → Int), i ≤ k ∧ v = .int .i64 i ∧ Hid (DpM w3 q gd ga gi k m.n m.wd oa oc (fun x => (inCount m r x k : Int)) A gr (inB2 m r) k wr ∧ ∀ x, x < i → Dp m r k x k (A x))) (fun v _ => k - (intOf v).toNat)
          case atStart => exact ⟨0, _, Nat.zero_le _, rfl, Lib.hid ⟨HN.out, fun x hx => by omega⟩⟩
          case round =>
            clear HN
            obtain ⟨i, A, hik0, rfl, hI⟩ := hrel
            have hi64 : (i : Int) ≤ 100 := by omega
            by_cases hik : i < k
            · have hik64 : (i : Int) < k := by omega
              have ca := hI.out.1.ra.c i hik
              have fa := hI.out.1.ra.f i hik
              have HI2 : Hid (DpM w3 q gd ga gi k m.n m.wd oa oc (fun x => (inCount m r x k : Int)) (upd A i (-1)) gr (inB2 m r) k (wr.setCell ⟨ga, i, none⟩ (.int .i64 (-1))) ∧ (∀ x, x < i → Dp m r k x k (upd A i (-1) x)) ∧ Dp m r k i 0 (upd A i (-1) i)) := Lib.hid ⟨hI.out.1.putA hik (-1), fun x hx => by rw [upd_ne _ _ (by omega)]; exact hI.out.2 x hx, by rw [upd_same]; exact Dp.begin⟩
              clear hI
              go_wp2_with fail
              clear ca fa
              generalize wr.setCell ⟨ga, i, none⟩ (.int .i64 (-1)) = w6 at HI2 ⊢
              obtain ⟨wp, rfl⟩ : ∃ wo : World, wo = wr := ⟨_, rfl⟩
              go_loopw [14] (fun v wr => ∃ (j : Nat) (A : Nat → Int), j ≤ k ∧ v = .int .i64 j ∧ Hid (DpM w3 q gd ga gi k m.n m.wd oa oc (fun x => (inCount m r x k : Int)) A gr (inB2 m r) k wr ∧ (∀ x, x < i → Dp m r k x k (A x)) ∧ Dp m r k i j (A i))) (fun v _ => k - (intOf v).toNat)
              case atStart => exact ⟨0, _, Nat.zero_le _, rfl, HI2⟩
              case round =>
                clear HI2
                obtain ⟨j, A2, hj0, rfl, hJ⟩ := hrel
                have hj64 : (j : Int) ≤ 100 := by omega
                by_cases hjk : j < k
                · have hjk64 : (j : Int) < k := by omega
                  obtain ⟨gx, hgx⟩ : ∃ g, g = gr i := ⟨_, rfl⟩
                  obtain ⟨b, hb⟩ : ∃ b, b = inB2 m r i j := ⟨_, rfl⟩
                  obtain ⟨x, hx⟩ : ∃ x, x = A2 i := ⟨_, rfl⟩
                  obtain ⟨dj, hdj⟩ : ∃ d, d = inCount m r j k := ⟨_, rfl⟩
                  obtain ⟨cg, rb⟩ := hJ.out.1.rt i hik
                  have cb := rb.c j hjk
                  have ca := hJ.out.1.ra.c i hik
                  have fa := hJ.out.1.ra.f i hik
                  have cd := hJ.out.1.rd.c j hjk
                  rw [← hgx] at cg cb
                  rw [← hb] at cb
                  rw [← hx] at ca
                  rw [← hdj] at cd
                  have HX := Lib.hid (And.intro hgx (And.intro hb (And.intro hx hdj)))
                  clear hgx hb hx hdj rb
                  cases b with
                  | false =>
                    have hC : (fun W => W.cell? ⟨gi, i, none⟩ = some (.slice (some ⟨gx, 0, none⟩) k k) ∧ W.cell? ⟨gx, j, none⟩ = some (.bool false) ∧ W.cell? ⟨ga, i, none⟩ = some (.int .i64 x) ∧ W.cell? ⟨gd, j, none⟩ = some (.int .i64 dj)) wr.drew := ⟨cg, cb, ca, cd⟩
                    clear cg cb ca cd fa
                    go_upto_region 24 with (fail)
                    refine Lim.regC' (fun W => W.cell? ⟨gi, i, none⟩ = some (.slice (some ⟨gx, 0, none⟩) k k) ∧ W.cell? ⟨gx, j, none⟩ = some (.bool false) ∧ W.cell? ⟨ga, i, none⟩ = some (.int .i64 x) ∧ W.cell? ⟨gd, j, none⟩ = some (.int .i64 dj)) [] #[false, false, false, false, false, false, false, false, false, false, false, false, false, false, false, false, false, false, false, false, false, false, false, false, false, false, false, false] (by kernel_rfl) rfl ?_
                    refine Lim.stepR 0 (fun _ => trivial) rfl (by kernel_rfl) (fun _ _ _ _ h => h) hC rfl ?_; apply Exists.intro; refine ⟨?_, ?_⟩
                    · rintro w ⟨r1, r2, r3, r4⟩; go_simp; try with_reducible rfl
                    simp only [Act.put, List.setIfInBounds_toArray, List.set_cons_succ, List.set_cons_zero]
                    refine Lim.stepR 1 (fun _ => trivial) rfl (by kernel_rfl) (fun _ _ _ _ h => h) hC rfl ?_; apply Exists.intro; refine ⟨?_, ?_⟩
                    · rintro w ⟨r1, r2, r3, r4⟩; go_simp; try with_reducible rfl
                    simp only [Act.put, List.setIfInBounds_toArray, List.set_cons_succ, List.set_cons_zero]
                    refine Lim.stepR 2 (fun _ => trivial) rfl (by kernel_rfl) (fun _ _ _ _ h => h) hC rfl ?_; apply Exists.intro; refine ⟨?_, ?_⟩
                    · rintro w ⟨r1, r2, r3, r4⟩; go_simp; try with_reducible rfl
                    simp only [Act.put, List.setIfInBounds_toArray, List.set_cons_succ, List.set_cons_zero]
                    refine Lim.stepR 3 (fun _ => trivial) rfl (by kernel_rfl) (fun _ _ _ _ h => h) hC rfl ?_; apply Exists.intro; refine ⟨?_, ?_⟩
                    · rintro w ⟨r1, r2, r3, r4⟩; go_simp; try with_reducible rfl
                    simp only [Act.put, List.setIfInBounds_toArray, List.set_cons_succ, List.set_cons_zero]
                    refine Lim.stepR 4 (fun _ => trivial) rfl (by kernel_rfl) (fun _ _ _ _ h => h) hC rfl ?_; apply Exists.intro; refine ⟨?_, ?_⟩
                    · rintro w ⟨r1, r2, r3, r4⟩; go_simp; try with_reducible rfl
                    simp only [Act.put, List.setIfInBounds_toArray, List.set_cons_succ, List.set_cons_zero]
                    refine Lim.stepR 5 (fun _ => trivial) rfl (by kernel_rfl) (fun _ _ _ _ h => h) hC rfl ?_; apply Exists.intro; refine ⟨?_, ?_⟩
                    · rintro w ⟨r1, r2, r3, r4⟩; go_simp; try with_reducible rfl
                    simp only [Act.put, List.setIfInBounds_toArray, List.set_cons_succ, List.set_cons_zero]
                    refine Lim.stepR 6 (fun _ => trivial) rfl (by kernel_rfl) (fun _ _ _ _ h => h) hC rfl ?_; apply Exists.intro; refine ⟨?_, ?_⟩
                    · rintro w ⟨r1, r2, r3, r4⟩; go_simp; try with_reducible rfl
                    simp only [Act.put, List.setIfInBounds_toArray, List.set_cons_succ, List.set_cons_zero]
                    refine Lim.stepR 7 (fun _ => trivial) rfl (by kernel_rfl) (fun _ _ _ _ h => h) hC rfl ?_; apply Exists.intro; refine ⟨?_, ?_⟩
                    · rintro w ⟨r1, r2, r3, r4⟩; go_simp; try with_reducible rfl
                    simp only [Act.put, List.setIfInBounds_toArray, List.set_cons_succ, List.set_cons_zero]
                    refine Lim.stepS 8 (fun _ => trivial) rfl (by kernel_rfl) (fun _ _ _ _ h => h) hC rfl ?_
                    simp only [Act.put, List.setIfInBounds_toArray, List.set_cons_succ, List.set_cons_zero]
                    refine Lim.stepS 9 (fun _ => trivial) rfl (by kernel_rfl) (fun _ _ _ _ h => h) hC rfl ?_
                    simp only [Act.put, List.setIfInBounds_toArray, List.set_cons_succ, List.set_cons_zero]
                    refine Lim.stepS 10 (fun _ => trivial) rfl (by kernel_rfl) (fun _ _ _ _ h => h) hC rfl ?_
                    simp only [Act.put, List.setIfInBounds_toArray, List.set_cons_succ, List.set_cons_zero]
                    refine Lim.stepS 11 (fun _ => trivial) rfl (by kernel_rfl) (fun _ _ _ _ h => h) hC rfl ?_
                    simp only [Act.put, List.setIfInBounds_toArray, List.set_cons_succ, List.set_cons_zero]
                    refine Lim.stepS 12 (fun _ => trivial) rfl (by kernel_rfl) (fun _ _ _ _ h => h) hC rfl ?_
                    simp only [Act.put, List.setIfInBounds_toArray, List.set_cons_succ, List.set_cons_zero]
                    refine Lim.stepS 13 (fun _ => trivial) rfl (by kernel_rfl) (fun _ _ _ _ h => h) hC rfl ?_
                    simp only [Act.put, List.setIfInBounds_toArray, List.set_cons_succ, List.set_cons_zero]
                    refine Lim.stepS 14 (fun _ => trivial) rfl (by kernel_rfl) (fun _ _ _ _ h => h) hC rfl ?_
                    simp only [Act.put, List.setIfInBounds_toArray, List.set_cons_succ, List.set_cons_zero]
                    refine Lim.stepS 15 (fun _ => trivial) rfl (by kernel_rfl) (fun _ _ _ _ h => h) hC rfl ?_
                    simp only [Act.put, List.setIfInBounds_toArray, List.set_cons_succ, List.set_cons_zero]
                    refine Lim.stepS 16 (fun _ => trivial) rfl (by kernel_rfl) (fun _ _ _ _ h => h) hC rfl ?_
                    simp only [Act.put, List.setIfInBounds_toArray, List.set_cons_succ, List.set_cons_zero]
                    refine Lim.stepS 17 (fun _ => trivial) rfl (by kernel_rfl) (fun _ _ _ _ h => h) hC rfl ?_
                    simp only [Act.put, List.setIfInBounds_toArray, List.set_cons_succ, List.set_cons_zero]
                    refine Lim.stepS 18 (fun _ => trivial) rfl (by kernel_rfl) (fun _ _ _ _ h => h) hC rfl ?_
                    simp only [Act.put, List.setIfInBounds_toArray, List.set_cons_succ, List.set_cons_zero]
                    refine Lim.stepS 19 (fun _ => trivial) rfl (by kernel_rfl) (fun _ _ _ _ h => h) hC rfl ?_
                    simp only [Act.put, List.setIfInBounds_toArray, List.set_cons_succ, List.set_cons_zero]
                    refine Lim.stepS 20 (fun _ => trivial) rfl (by kernel_rfl) (fun _ _ _ _ h => h) hC rfl ?_
                    simp only [Act.put, List.setIfInBounds_toArray, List.set_cons_succ, List.set_cons_zero]
                    refine Lim.stepS 21 (fun _ => trivial) rfl (by kernel_rfl) (fun _ _ _ _ h => h) hC rfl ?_
                    simp only [Act.put, List.setIfInBounds_toArray, List.set_cons_succ, List.set_cons_zero]
                    refine Lim.stepS 22 (fun _ => trivial) rfl (by kernel_rfl) (fun _ _ _ _ h => h) hC rfl ?_
                    simp only [Act.put, List.setIfInBounds_toArray, List.set_cons_succ, List.set_cons_zero]
                    refine Lim.stepS 23 (fun _ => trivial) rfl (by kernel_rfl) (fun _ _ _ _ h => h) hC rfl ?_
                    simp only [Act.put, List.setIfInBounds_toArray, List.set_cons_succ, List.set_cons_zero]
                    refine Lim.stepS 24 (fun _ => trivial) rfl (by kernel_rfl) (fun _ _ _ _ h => h) hC rfl ?_
                    simp only [Act.put, List.setIfInBounds_toArray, List.set_cons_succ, List.set_cons_zero]
                    refine Lim.stepS 25 (fun _ => trivial) rfl (by kernel_rfl) (fun _ _ _ _ h => h) hC rfl ?_
                    simp only [Act.put, List.setIfInBounds_toArray, List.set_cons_succ, List.set_cons_zero]
                    refine Lim.stepS 26 (fun _ => trivial) rfl (by kernel_rfl) (fun _ _ _ _ h => h) hC rfl ?_
                    simp only [Act.put, List.setIfInBounds_toArray, List.set_cons_succ, List.set_cons_zero]
                    refine Lim.stepR 27 (fun _ => trivial) rfl (by kernel_rfl) (fun _ _ _ _ h => h) hC rfl ?_; apply Exists.intro; refine ⟨?_, ?_⟩
                    · rintro w ⟨r1, r2, r3, r4⟩; go_simp; try with_reducible rfl
                    simp only [Act.put, List.setIfInBounds_toArray, List.set_cons_succ, List.set_cons_zero]
                    refine Lim.stepD (by kernel_rfl) ?_
                    clear hC
                    have HD := Lib.hid hJ.out.1
                    go_wp2_with fail
                    go_roundw
                    case rel => exact ⟨j + 1, A2, by omega, by go_num, Lib.hid ⟨hJ.out.1.on (Below.refl _ _).drew, hJ.out.2.1, hJ.out.2.2.skip (fun h => by have := inB2_iff.2 h; rw [← HX.out.2.1] at this; cases this)⟩⟩
                    case measure => simp [intOf]; omega
                  | true =>
                    have HIN : Hid (In m r i j) := Lib.hid (inB2_iff.1 HX.out.2.1.symm)
                    have HST : Hid (∀ W, W = wr.drew → DpM w3 q gd ga gi k m.n m.wd oa oc (fun x => (inCount m r x k : Int)) (upd A2 i j) gr (inB2 m r) k (W.setCell ⟨ga, i, none⟩ (.int .i64 j)) ∧ ∀ y, y < i → Dp m r k y k (upd A2 i j y)) := Lib.hid (fun W e => by rw [e]; exact ⟨(hJ.out.1.on (Below.refl _ _).drew).putA hik j, fun y hy => by rw [upd_ne _ _ (by omega)]; exact hJ.out.2.1 y hy⟩)
                    by_cases hx0 : x < 0
                    · have d1 : decide (x < 0) = true := by simpa using hx0
                      have HX0 := Lib.hid hx0
                      clear hx0
                      have hC : (fun W => W.cell? ⟨gi, i, none⟩ = some (.slice (some ⟨gx, 0, none⟩) k k) ∧ W.cell? ⟨gx, j, none⟩ = some (.bool true) ∧ W.cell? ⟨ga, i, none⟩ = some (.int .i64 x) ∧ W.cell? ⟨gd, j, none⟩ = some (.int .i64 dj)) wr.drew := ⟨cg, cb, ca, cd⟩
                      clear cg cb cd
                      go_upto_region 24 with (fail)
                      refine Lim.regC' (fun W => W.cell? ⟨gi, i, none⟩ = some (.slice (some ⟨gx, 0, none⟩) k k) ∧ W.cell? ⟨gx, j, none⟩ = some (.bool true) ∧ W.cell? ⟨ga, i, none⟩ = some (.int .i64 x) ∧ W.cell? ⟨gd, j, none⟩ = some (.int .i64 dj)) [] #[false, false, false, false, false, false, false, false, false, false, false, false, false, false, false, false, false, false, false, false, false, false, false, false, false, false, false, false] (by kernel_rfl) rfl ?_
                      refine Lim.stepR 0 (fun _ => trivial) rfl (by kernel_rfl) (fun _ _ _ _ h => h) hC rfl ?_; apply Exists.intro; refine ⟨?_, ?_⟩
                      · rintro w ⟨r1, r2, r3, r4⟩; go_simp; try with_reducible rfl
                      simp only [Act.put, List.setIfInBounds_toArray, List.set_cons_succ, List.set_cons_zero]
                      refine Lim.stepR 1 (fun _ => trivial) rfl (by kernel_rfl) (fun _ _ _ _ h => h) hC rfl ?_; apply Exists.intro; refine ⟨?_, ?_⟩
                      · rintro w ⟨r1, r2, r3, r4⟩; go_simp; try with_reducible rfl
                      simp only [Act.put, List.setIfInBounds_toArray, List.set_cons_succ, List.set_cons_zero]
                      refine Lim.stepR 2 (fun _ => trivial) rfl (by kernel_rfl) (fun _ _ _ _ h => h) hC rfl ?_; apply Exists.intro; refine ⟨?_, ?_⟩
                      · rintro w ⟨r1, r2, r3, r4⟩; go_simp; try with_reducible rfl
                      simp only [Act.put, List.setIfInBounds_toArray, List.set_cons_succ, List.set_cons_zero]
                      refine Lim.stepR 3 (fun _ => trivial) rfl (by kernel_rfl) (fun _ _ _ _ h => h) hC rfl ?_; apply Exists.intro; refine ⟨?_, ?_⟩
                      · rintro w ⟨r1, r2, r3, r4⟩; go_simp; try with_reducible rfl
                      simp only [Act.put, List.setIfInBounds_toArray, List.set_cons_succ, List.set_cons_zero]
                      refine Lim.stepR 4 (fun _ => trivial) rfl (by kernel_rfl) (fun _ _ _ _ h => h) hC rfl ?_; apply Exists.intro; refine ⟨?_, ?_⟩
                      · rintro w ⟨r1, r2, r3, r4⟩; go_simp; try with_reducible rfl
                      simp only [Act.put, List.setIfInBounds_toArray, List.set_cons_succ, List.set_cons_zero]
                      refine Lim.stepR 5 (fun _ => trivial) rfl (by kernel_rfl) (fun _ _ _ _ h => h) hC rfl ?_; apply Exists.intro; refine ⟨?_, ?_⟩
                      · rintro w ⟨r1, r2, r3, r4⟩; go_simp; try with_reducible rfl
                      simp only [Act.put, List.setIfInBounds_toArray, List.set_cons_succ, List.set_cons_zero]
                      refine Lim.stepR 6 (fun _ => trivial) rfl (by kernel_rfl) (fun _ _ _ _ h => h) hC rfl ?_; apply Exists.intro; refine ⟨?_, ?_⟩
                      · rintro w ⟨r1, r2, r3, r4⟩; go_simp; try with_reducible rfl
                      simp only [Act.put, List.setIfInBounds_toArray, List.set_cons_succ, List.set_cons_zero]
                      refine Lim.stepR 7 (fun _ => trivial) rfl (by kernel_rfl) (fun _ _ _ _ h => h) hC rfl ?_; apply Exists.intro; refine ⟨?_, ?_⟩
                      · rintro w ⟨r1, r2, r3, r4⟩; go_simp; try with_reducible rfl
                      simp only [Act.put, List.setIfInBounds_toArray, List.set_cons_succ, List.set_cons_zero]
                      refine Lim.stepR 8 (fun _ => trivial) rfl (by kernel_rfl) (fun _ _ _ _ h => h) hC rfl ?_; apply Exists.intro; refine ⟨?_, ?_⟩
                      · rintro w ⟨r1, r2, r3, r4⟩; go_simp; try with_reducible rfl
                      simp only [Act.put, List.setIfInBounds_toArray, List.set_cons_succ, List.set_cons_zero]
                      refine Lim.stepR 9 (fun _ => trivial) rfl (by kernel_rfl) (fun _ _ _ _ h => h) hC rfl ?_; apply Exists.intro; refine ⟨?_, ?_⟩
                      · rintro w ⟨r1, r2, r3, r4⟩; go_simp; try with_reducible rfl
                      simp only [Act.put, List.setIfInBounds_toArray, List.set_cons_succ, List.set_cons_zero]
                      refine Lim.stepR 10 (fun _ => trivial) rfl (by kernel_rfl) (fun _ _ _ _ h => h) hC rfl ?_; apply Exists.intro; refine ⟨?_, ?_⟩
                      · rintro w ⟨r1, r2, r3, r4⟩; go_simp; try with_reducible rfl
                      simp only [Act.put, List.setIfInBounds_toArray, List.set_cons_succ, List.set_cons_zero]
                      refine Lim.stepR 11 (fun _ => trivial) rfl (by kernel_rfl) (fun _ _ _ _ h => h) hC rfl ?_; apply Exists.intro; refine ⟨?_, ?_⟩
                      · rintro w ⟨r1, r2, r3, r4⟩; go_simp; try with_reducible rfl
                      simp only [Act.put, List.setIfInBounds_toArray, List.set_cons_succ, List.set_cons_zero]
                      refine Lim.stepR 12 (fun _ => trivial) rfl (by kernel_rfl) (fun _ _ _ _ h => h) hC rfl ?_; apply Exists.intro; refine ⟨?_, ?_⟩
                      · rintro w ⟨r1, r2, r3, r4⟩; go_simp; try with_reducible rfl
                      simp only [Act.put, List.setIfInBounds_toArray, List.set_cons_succ, List.set_cons_zero]
                      refine Lim.stepR 13 (fun _ => trivial) rfl (by kernel_rfl) (fun _ _ _ _ h => h) hC rfl ?_; apply Exists.intro; refine ⟨?_, ?_⟩
                      · rintro w ⟨r1, r2, r3, r4⟩; go_simp; try with_reducible rfl
                      simp only [Act.put, List.setIfInBounds_toArray, List.set_cons_succ, List.set_cons_zero]
                      refine Lim.stepS 14 (fun _ => trivial) rfl (by kernel_rfl) (fun _ _ _ _ h => h) hC rfl ?_
                      simp only [Act.put, List.setIfInBounds_toArray, List.set_cons_succ, List.set_cons_zero]
                      refine Lim.stepS 15 (fun _ => trivial) rfl (by kernel_rfl) (fun _ _ _ _ h => h) hC rfl ?_
                      simp only [Act.put, List.setIfInBounds_toArray, List.set_cons_succ, List.set_cons_zero]
                      refine Lim.stepS 16 (fun _ => trivial) rfl (by kernel_rfl) (fun _ _ _ _ h => h) hC rfl ?_
                      simp only [Act.put, List.setIfInBounds_toArray, List.set_cons_succ, List.set_cons_zero]
                      refine Lim.stepS 17 (fun _ => trivial) rfl (by kernel_rfl) (fun _ _ _ _ h => h) hC rfl ?_
                      simp only [Act.put, List.setIfInBounds_toArray, List.set_cons_succ, List.set_cons_zero]
                      refine Lim.stepS 18 (fun _ => trivial) rfl (by kernel_rfl) (fun _ _ _ _ h => h) hC rfl ?_
                      simp only [Act.put, List.setIfInBounds_toArray, List.set_cons_succ, List.set_cons_zero]
                      refine Lim.stepS 19 (fun _ => trivial) rfl (by kernel_rfl) (fun _ _ _ _ h => h) hC rfl ?_
                      simp only [Act.put, List.setIfInBounds_toArray, List.set_cons_succ, List.set_cons_zero]
                      refine Lim.stepS 20 (fun _ => trivial) rfl (by kernel_rfl) (fun _ _ _ _ h => h) hC rfl ?_
                      simp only [Act.put, List.setIfInBounds_toArray, List.set_cons_succ, List.set_cons_zero]
                      refine Lim.stepS 21 (fun _ => trivial) rfl (by kernel_rfl) (fun _ _ _ _ h => h) hC rfl ?_
                      simp only [Act.put, List.setIfInBounds_toArray, List.set_cons_succ, List.set_cons_zero]
                      refine Lim.stepS 22 (fun _ => trivial) rfl (by kernel_rfl) (fun _ _ _ _ h => h) hC rfl ?_
                      simp only [Act.put, List.setIfInBounds_toArray, List.set_cons_succ, List.set_cons_zero]
                      refine Lim.stepS 23 (fun _ => trivial) rfl (by kernel_rfl) (fun _ _ _ _ h => h) hC rfl ?_
                      simp only [Act.put, List.setIfInBounds_toArray, List.set_cons_succ, List.set_cons_zero]
                      refine Lim.stepS 24 (fun _ => trivial) rfl (by kernel_rfl) (fun _ _ _ _ h => h) hC rfl ?_
                      simp only [Act.put, List.setIfInBounds_toArray, List.set_cons_succ, List.set_cons_zero]
                      refine Lim.stepS 25 (fun _ => trivial) rfl (by kernel_rfl) (fun _ _ _ _ h => h) hC rfl ?_
                      simp only [Act.put, List.setIfInBounds_toArray, List.set_cons_succ, List.set_cons_zero]
                      refine Lim.stepR 26 (fun _ => trivial) rfl (by kernel_rfl) (fun _ _ _ _ h => h) hC rfl ?_; apply Exists.intro; refine ⟨?_, ?_⟩
                      · rintro w ⟨r1, r2, r3, r4⟩; go_simp; try with_reducible rfl
                      simp only [Act.put, List.setIfInBounds_toArray, List.set_cons_succ, List.set_cons_zero]
                      refine Lim.stepR 27 (fun _ => trivial) rfl (by kernel_rfl) (fun _ _ _ _ h => h) hC rfl ?_; apply Exists.intro; refine ⟨?_, ?_⟩
                      · rintro w ⟨r1, r2, r3, r4⟩; go_simp; try with_reducible rfl
                      simp only [Act.put, List.setIfInBounds_toArray, List.set_cons_succ, List.set_cons_zero]
                      refine Lim.stepD (by kernel_rfl) ?_
                      clear hC d1
                      go_wp2_with fail
                      go_roundw
                      case rel => exact ⟨j + 1, _, by omega, by go_num, Lib.hid ⟨(HST.out _ rfl).1, (HST.out _ rfl).2, by rw [upd_same]; exact hJ.out.2.2.first (by rw [← HX.out.2.2.1]; exact HX0.out) HIN.out⟩⟩
                      case measure => simp [intOf]; omega
                    · have d1 : decide (x < 0) = false := by simpa using hx0
                      obtain ⟨a, hxa, haj⟩ := hJ.out.2.2.is (by rw [← HX.out.2.2.1]; exact hx0)
                      rw [← HX.out.2.2.1] at hxa
                      subst hxa
                      have hak : a < k := by omega
                      have hak64 : (a : Int) < k := by omega
                      have d1' : decide ((a : Int) < 0) = false := d1
                      obtain ⟨da, hda⟩ : ∃ d, d = inCount m r a k := ⟨_, rfl⟩
                      have cda := hJ.out.1.rd.c a hak
                      rw [← hda] at cda
                      have HDA := Lib.hid hda
                      have HAX := Lib.hid HX.out.2.2.1
                      clear hx0 hda d1
                      have hC : (fun W => W.cell? ⟨gi, i, none⟩ = some (.slice (some ⟨gx, 0, none⟩) k k) ∧ W.cell? ⟨gx, j, none⟩ = some (.bool true) ∧ W.cell? ⟨ga, i, none⟩ = some (.int .i64 a) ∧ W.cell? ⟨gd, j, none⟩ = some (.int .i64 dj) ∧ W.cell? ⟨gd, a, none⟩ = some (.int .i64 da)) wr.drew := ⟨cg, cb, ca, cd, cda⟩
                      clear cg cb cd cda
                      by_cases hlt : da < dj
                      · have d2 : decide (da < dj) = true := by simpa using hlt
                        have d2' : decide ((da : Int) < (dj : Int)) = true := by simpa using hlt
                        have HLT := Lib.hid hlt
                        clear hlt
                        go_upto_region 24 with (fail)
                        refine Lim.regC' (fun W => W.cell? ⟨gi, i, none⟩ = some (.slice (some ⟨gx, 0, none⟩) k k) ∧ W.cell? ⟨gx, j, none⟩ = some (.bool true) ∧ W.cell? ⟨ga, i, none⟩ = some (.int .i64 a) ∧ W.cell? ⟨gd, j, none⟩ = some (.int .i64 dj) ∧ W.cell? ⟨gd, a, none⟩ = some (.int .i64 da)) [] #[false, false, false, false, false, false, false, false, false, false, false, false, false, false, false, false, false, false, false, false, false, false, false, false, false, false, false, false] (by kernel_rfl) rfl ?_
                        refine Lim.stepR 0 (fun _ => trivial) rfl (by kernel_rfl) (fun _ _ _ _ h => h) hC rfl ?_; apply Exists.intro; refine ⟨?_, ?_⟩
                        · rintro w ⟨r1, r2, r3, r4, r5⟩; go_simp; try with_reducible rfl
                        simp only [Act.put, List.setIfInBounds_toArray, List.set_cons_succ, List.set_cons_zero]
                        refine Lim.stepR 1 (fun _ => trivial) rfl (by kernel_rfl) (fun _ _ _ _ h => h) hC rfl ?_; apply Exists.intro; refine ⟨?_, ?_⟩
                        · rintro w ⟨r1, r2, r3, r4, r5⟩; go_simp; try with_reducible rfl
                        simp only [Act.put, List.setIfInBounds_toArray, List.set_cons_succ, List.set_cons_zero]
                        refine Lim.stepR 2 (fun _ => trivial) rfl (by kernel_rfl) (fun _ _ _ _ h => h) hC rfl ?_; apply Exists.intro; refine ⟨?_, ?_⟩
                        · rintro w ⟨r1, r2, r3, r4, r5⟩; go_simp; try with_reducible rfl
                        simp only [Act.put, List.setIfInBounds_toArray, List.set_cons_succ, List.set_cons_zero]
                        refine Lim.stepR 3 (fun _ => trivial) rfl (by kernel_rfl) (fun _ _ _ _ h => h) hC rfl ?_; apply Exists.intro; refine ⟨?_, ?_⟩
                        · rintro w ⟨r1, r2, r3, r4, r5⟩; go_simp; try with_reducible rfl
                        simp only [Act.put, List.setIfInBounds_toArray, List.set_cons_succ, List.set_cons_zero]
                        refine Lim.stepR 4 (fun _ => trivial) rfl (by kernel_rfl) (fun _ _ _ _ h => h) hC rfl ?_; apply Exists.intro; refine ⟨?_, ?_⟩
                        · rintro w ⟨r1, r2, r3, r4, r5⟩; go_simp; try with_reducible rfl
                        simp only [Act.put, List.setIfInBounds_toArray, List.set_cons_succ, List.set_cons_zero]
                        refine Lim.stepR 5 (fun _ => trivial) rfl (by kernel_rfl) (fun _ _ _ _ h => h) hC rfl ?_; apply Exists.intro; refine ⟨?_, ?_⟩
                        · rintro w ⟨r1, r2, r3, r4, r5⟩; go_simp; try with_reducible rfl
                        simp only [Act.put, List.setIfInBounds_toArray, List.set_cons_succ, List.set_cons_zero]
                        refine Lim.stepR 6 (fun _ => trivial) rfl (by kernel_rfl) (fun _ _ _ _ h => h) hC rfl ?_; apply Exists.intro; refine ⟨?_, ?_⟩
                        · rintro w ⟨r1, r2, r3, r4, r5⟩; go_simp; try with_reducible rfl
                        simp only [Act.put, List.setIfInBounds_toArray, List.set_cons_succ, List.set_cons_zero]
                        refine Lim.stepR 7 (fun _ => trivial) rfl (by kernel_rfl) (fun _ _ _ _ h => h) hC rfl ?_; apply Exists.intro; refine ⟨?_, ?_⟩
                        · rintro w ⟨r1, r2, r3, r4, r5⟩; go_simp; try with_reducible rfl
                        simp only [Act.put, List.setIfInBounds_toArray, List.set_cons_succ, List.set_cons_zero]
                        refine Lim.stepR 8 (fun _ => trivial) rfl (by kernel_rfl) (fun _ _ _ _ h => h) hC rfl ?_; apply Exists.intro; refine ⟨?_, ?_⟩
                        · rintro w ⟨r1, r2, r3, r4, r5⟩; go_simp; try with_reducible rfl
                        simp only [Act.put, List.setIfInBounds_toArray, List.set_cons_succ, List.set_cons_zero]
                        refine Lim.stepR 9 (fun _ => trivial) rfl (by kernel_rfl) (fun _ _ _ _ h => h) hC rfl ?_; apply Exists.intro; refine ⟨?_, ?_⟩
                        · rintro w ⟨r1, r2, r3, r4, r5⟩; go_simp; try with_reducible rfl
                        simp only [Act.put, List.setIfInBounds_toArray, List.set_cons_succ, List.set_cons_zero]
                        refine Lim.stepR 10 (fun _ => trivial) rfl (by kernel_rfl) (fun _ _ _ _ h => h) hC rfl ?_; apply Exists.intro; refine ⟨?_, ?_⟩
                        · rintro w ⟨r1, r2, r3, r4, r5⟩; go_simp; try with_reducible rfl
                        simp only [Act.put, List.setIfInBounds_toArray, List.set_cons_succ, List.set_cons_zero]
                        refine Lim.stepR 11 (fun _ => trivial) rfl (by kernel_rfl) (fun _ _ _ _ h => h) hC rfl ?_; apply Exists.intro; refine ⟨?_, ?_⟩
                        · rintro w ⟨r1, r2, r3, r4, r5⟩; go_simp; try with_reducible rfl
                        simp only [Act.put, List.setIfInBounds_toArray, List.set_cons_succ, List.set_cons_zero]
                        refine Lim.stepR 12 (fun _ => trivial) rfl (by kernel_rfl) (fun _ _ _ _ h => h) hC rfl ?_; apply Exists.intro; refine ⟨?_, ?_⟩
                        · rintro w ⟨r1, r2, r3, r4, r5⟩; go_simp; try with_reducible rfl
                        simp only [Act.put, List.setIfInBounds_toArray, List.set_cons_succ, List.set_cons_zero]
                        refine Lim.stepR 13 (fun _ => trivial) rfl (by kernel_rfl) (fun _ _ _ _ h => h) hC rfl ?_; apply Exists.intro; refine ⟨?_, ?_⟩
                        · rintro w ⟨r1, r2, r3, r4, r5⟩; go_simp; try with_reducible rfl
                        simp only [Act.put, List.setIfInBounds_toArray, List.set_cons_succ, List.set_cons_zero]
                        refine Lim.stepR 14 (fun _ => trivial) rfl (by kernel_rfl) (fun _ _ _ _ h => h) hC rfl ?_; apply Exists.intro; refine ⟨?_, ?_⟩
                        · rintro w ⟨r1, r2, r3, r4, r5⟩; go_simp; try with_reducible rfl
                        simp only [Act.put, List.setIfInBounds_toArray, List.set_cons_succ, List.set_cons_zero]
                        refine Lim.stepR 15 (fun _ => trivial) rfl (by kernel_rfl) (fun _ _ _ _ h => h) hC rfl ?_; apply Exists.intro; refine ⟨?_, ?_⟩
                        · rintro w ⟨r1, r2, r3, r4, r5⟩; go_simp; try with_reducible rfl
                        simp only [Act.put, List.setIfInBounds_toArray, List.set_cons_succ, List.set_cons_zero]
                        refine Lim.stepR 16 (fun _ => trivial) rfl (by kernel_rfl) (fun _ _ _ _ h => h) hC rfl ?_; apply Exists.intro; refine ⟨?_, ?_⟩
                        · rintro w ⟨r1, r2, r3, r4, r5⟩; go_simp; try with_reducible rfl
                        simp only [Act.put, List.setIfInBounds_toArray, List.set_cons_succ, List.set_cons_zero]
                        refine Lim.stepR 17 (fun _ => trivial) rfl (by kernel_rfl) (fun _ _ _ _ h => h) hC rfl ?_; apply Exists.intro; refine ⟨?_, ?_⟩
                        · rintro w ⟨r1, r2, r3, r4, r5⟩; go_simp; try with_reducible rfl
                        simp only [Act.put, List.setIfInBounds_toArray, List.set_cons_succ, List.set_cons_zero]
                        refine Lim.stepR 18 (fun _ => trivial) rfl (by kernel_rfl) (fun _ _ _ _ h => h) hC rfl ?_; apply Exists.intro; refine ⟨?_, ?_⟩
                        · rintro w ⟨r1, r2, r3, r4, r5⟩; go_simp; try with_reducible rfl
                        simp only [Act.put, List.setIfInBounds_toArray, List.set_cons_succ, List.set_cons_zero]
                        refine Lim.stepR 19 (fun _ => trivial) rfl (by kernel_rfl) (fun _ _ _ _ h => h) hC rfl ?_; apply Exists.intro; refine ⟨?_, ?_⟩
                        · rintro w ⟨r1, r2, r3, r4, r5⟩; go_simp; try with_reducible rfl
                        simp only [Act.put, List.setIfInBounds_toArray, List.set_cons_succ, List.set_cons_zero]
                        refine Lim.stepR 20 (fun _ => trivial) rfl (by kernel_rfl) (fun _ _ _ _ h => h) hC rfl ?_; apply Exists.intro; refine ⟨?_, ?_⟩
                        · rintro w ⟨r1, r2, r3, r4, r5⟩; go_simp; try with_reducible rfl
                        simp only [Act.put, List.setIfInBounds_toArray, List.set_cons_succ, List.set_cons_zero]
                        refine Lim.stepR 21 (fun _ => trivial) rfl (by kernel_rfl) (fun _ _ _ _ h => h) hC rfl ?_; apply Exists.intro; refine ⟨?_, ?_⟩
                        · rintro w ⟨r1, r2, r3, r4, r5⟩; go_simp; try with_reducible rfl
                        simp only [Act.put, List.setIfInBounds_toArray, List.set_cons_succ, List.set_cons_zero]
                        refine Lim.stepR 22 (fun _ => trivial) rfl (by kernel_rfl) (fun _ _ _ _ h => h) hC rfl ?_; apply Exists.intro; refine ⟨?_, ?_⟩
                        · rintro w ⟨r1, r2, r3, r4, r5⟩; go_simp; try with_reducible rfl
                        simp only [Act.put, List.setIfInBounds_toArray, List.set_cons_succ, List.set_cons_zero]
                        refine Lim.stepR 23 (fun _ => trivial) rfl (by kernel_rfl) (fun _ _ _ _ h => h) hC rfl ?_; apply Exists.intro; refine ⟨?_, ?_⟩
                        · rintro w ⟨r1, r2, r3, r4, r5⟩; go_simp; try with_reducible rfl
                        simp only [Act.put, List.setIfInBounds_toArray, List.set_cons_succ, List.set_cons_zero]
                        refine Lim.stepR 24 (fun _ => trivial) rfl (by kernel_rfl) (fun _ _ _ _ h => h) hC rfl ?_; apply Exists.intro; refine ⟨?_, ?_⟩
                        · rintro w ⟨r1, r2, r3, r4, r5⟩; go_simp; try with_reducible rfl
                        simp only [Act.put, List.setIfInBounds_toArray, List.set_cons_succ, List.set_cons_zero]
                        refine Lim.stepR 25 (fun _ => trivial) rfl (by kernel_rfl) (fun _ _ _ _ h => h) hC rfl ?_; apply Exists.intro; refine ⟨?_, ?_⟩
                        · rintro w ⟨r1, r2, r3, r4, r5⟩; go_simp; try with_reducible rfl
                        simp only [Act.put, List.setIfInBounds_toArray, List.set_cons_succ, List.set_cons_zero]
                        refine Lim.stepR 26 (fun _ => trivial) rfl (by kernel_rfl) (fun _ _ _ _ h => h) hC rfl ?_; apply Exists.intro; refine ⟨?_, ?_⟩
                        · rintro w ⟨r1, r2, r3, r4, r5⟩; go_simp; try with_reducible rfl
                        simp only [Act.put, List.setIfInBounds_toArray, List.set_cons_succ, List.set_cons_zero]
                        refine Lim.stepR 27 (fun _ => trivial) rfl (by kernel_rfl) (fun _ _ _ _ h => h) hC rfl ?_; apply Exists.intro; refine ⟨?_, ?_⟩
                        · rintro w ⟨r1, r2, r3, r4, r5⟩; go_simp; try with_reducible rfl
                        simp only [Act.put, List.setIfInBounds_toArray, List.set_cons_succ, List.set_cons_zero]
                        refine Lim.stepD (by kernel_rfl) ?_
                        clear hC d2 d2' d1'
                        go_wp2_with fail
                        go_roundw
                        case rel => exact ⟨j + 1, _, by omega, by go_num, Lib.hid ⟨(HST.out _ rfl).1, (HST.out _ rfl).2, by rw [upd_same]; exact (HAX.out ▸ hJ.out.2.2).deeper HIN.out (by rw [← HDA.out, ← HX.out.2.2.2]; exact HLT.out)⟩⟩
                        case measure => simp [intOf]; omega
                      · have d2 : decide (da < dj) = false := by simpa using hlt
                        have d2' : decide ((da : Int) < (dj : Int)) = false := by simpa using hlt
                        have HLT := Lib.hid hlt
                        clear hlt
                        go_upto_region 24 with (fail)
                        refine Lim.regC' (fun W => W.cell? ⟨gi, i, none⟩ = some (.slice (some ⟨gx, 0, none⟩) k k) ∧ W.cell? ⟨gx, j, none⟩ = some (.bool true) ∧ W.cell? ⟨ga, i, none⟩ = some (.int .i64 a) ∧ W.cell? ⟨gd, j, none⟩ = some (.int .i64 dj) ∧ W.cell? ⟨gd, a, none⟩ = some (.int .i64 da)) [] #[false, false, false, false, false, false, false, false, false, false, false, false, false, false, false, false, false, false, false, false, false, false, false, false, false, false, false, false] (by kernel_rfl) rfl ?_
                        refine Lim.stepR 0 (fun _ => trivial) rfl (by kernel_rfl) (fun _ _ _ _ h => h) hC rfl ?_; apply Exists.intro; refine ⟨?_, ?_⟩
                        · rintro w ⟨r1, r2, r3, r4, r5⟩; go_simp; try with_reducible rfl
                        simp only [Act.put, List.setIfInBounds_toArray, List.set_cons_succ, List.set_cons_zero]
                        refine Lim.stepR 1 (fun _ => trivial) rfl (by kernel_rfl) (fun _ _ _ _ h => h) hC rfl ?_; apply Exists.intro; refine ⟨?_, ?_⟩
                        · rintro w ⟨r1, r2, r3, r4, r5⟩; go_simp; try with_reducible rfl
                        simp only [Act.put, List.setIfInBounds_toArray, List.set_cons_succ, List.set_cons_zero]
                        refine Lim.stepR 2 (fun _ => trivial) rfl (by kernel_rfl) (fun _ _ _ _ h => h) hC rfl ?_; apply Exists.intro; refine ⟨?_, ?_⟩
                        · rintro w ⟨r1, r2, r3, r4, r5⟩; go_simp; try with_reducible rfl
                        simp only [Act.put, List.setIfInBounds_toArray, List.set_cons_succ, List.set_cons_zero]
                        refine Lim.stepR 3 (fun _ => trivial) rfl (by kernel_rfl) (fun _ _ _ _ h => h) hC rfl ?_; apply Exists.intro; refine ⟨?_, ?_⟩
                        · rintro w ⟨r1, r2, r3, r4, r5⟩; go_simp; try with_reducible rfl
                        simp only [Act.put, List.setIfInBounds_toArray, List.set_cons_succ, List.set_cons_zero]
                        refine Lim.stepR 4 (fun _ => trivial) rfl (by kernel_rfl) (fun _ _ _ _ h => h) hC rfl ?_; apply Exists.intro; refine ⟨?_, ?_⟩
                        · rintro w ⟨r1, r2, r3, r4, r5⟩; go_simp; try with_reducible rfl
                        simp only [Act.put, List.setIfInBounds_toArray, List.set_cons_succ, List.set_cons_zero]
                        refine Lim.stepR 5 (fun _ => trivial) rfl (by kernel_rfl) (fun _ _ _ _ h => h) hC rfl ?_; apply Exists.intro; refine ⟨?_, ?_⟩
                        · rintro w ⟨r1, r2, r3, r4, r5⟩; go_simp; try with_reducible rfl
                        simp only [Act.put, List.setIfInBounds_toArray, List.set_cons_succ, List.set_cons_zero]
                        refine Lim.stepR 6 (fun _ => trivial) rfl (by kernel_rfl) (fun _ _ _ _ h => h) hC rfl ?_; apply Exists.intro; refine ⟨?_, ?_⟩
                        · rintro w ⟨r1, r2, r3, r4, r5⟩; go_simp; try with_reducible rfl
                        simp only [Act.put, List.setIfInBounds_toArray, List.set_cons_succ, List.set_cons_zero]
                        refine Lim.stepR 7 (fun _ => trivial) rfl (by kernel_rfl) (fun _ _ _ _ h => h) hC rfl ?_; apply Exists.intro; refine ⟨?_, ?_⟩
                        · rintro w ⟨r1, r2, r3, r4, r5⟩; go_simp; try with_reducible rfl
                        simp only [Act.put, List.setIfInBounds_toArray, List.set_cons_succ, List.set_cons_zero]
                        refine Lim.stepR 8 (fun _ => trivial) rfl (by kernel_rfl) (fun _ _ _ _ h => h) hC rfl ?_; apply Exists.intro; refine ⟨?_, ?_⟩
                        · rintro w ⟨r1, r2, r3, r4, r5⟩; go_simp; try with_reducible rfl
                        simp only [Act.put, List.setIfInBounds_toArray, List.set_cons_succ, List.set_cons_zero]
                        refine Lim.stepR 9 (fun _ => trivial) rfl (by kernel_rfl) (fun _ _ _ _ h => h) hC rfl ?_; apply Exists.intro; refine ⟨?_, ?_⟩
                        · rintro w ⟨r1, r2, r3, r4, r5⟩; go_simp; try with_reducible rfl
                        simp only [Act.put, List.setIfInBounds_toArray, List.set_cons_succ, List.set_cons_zero]
                        refine Lim.stepR 10 (fun _ => trivial) rfl (by kernel_rfl) (fun _ _ _ _ h => h) hC rfl ?_; apply Exists.intro; refine ⟨?_, ?_⟩
                        · rintro w ⟨r1, r2, r3, r4, r5⟩; go_simp; try with_reducible rfl
                        simp only [Act.put, List.setIfInBounds_toArray, List.set_cons_succ, List.set_cons_zero]
                        refine Lim.stepR 11 (fun _ => trivial) rfl (by kernel_rfl) (fun _ _ _ _ h => h) hC rfl ?_; apply Exists.intro; refine ⟨?_, ?_⟩
                        · rintro w ⟨r1, r2, r3, r4, r5⟩; go_simp; try with_reducible rfl
                        simp only [Act.put, List.setIfInBounds_toArray, List.set_cons_succ, List.set_cons_zero]
                        refine Lim.stepR 12 (fun _ => trivial) rfl (by kernel_rfl) (fun _ _ _ _ h => h) hC rfl ?_; apply Exists.intro; refine ⟨?_, ?_⟩
                        · rintro w ⟨r1, r2, r3, r4, r5⟩; go_simp; try with_reducible rfl
                        simp only [Act.put, List.setIfInBounds_toArray, List.set_cons_succ, List.set_cons_zero]
                        refine Lim.stepR 13 (fun _ => trivial) rfl (by kernel_rfl) (fun _ _ _ _ h => h) hC rfl ?_; apply Exists.intro; refine ⟨?_, ?_⟩
                        · rintro w ⟨r1, r2, r3, r4, r5⟩; go_simp; try with_reducible rfl
                        simp only [Act.put, List.setIfInBounds_toArray, List.set_cons_succ, List.set_cons_zero]
                        refine Lim.stepR 14 (fun _ => trivial) rfl (by kernel_rfl) (fun _ _ _ _ h => h) hC rfl ?_; apply Exists.intro; refine ⟨?_, ?_⟩
                        · rintro w ⟨r1, r2, r3, r4, r5⟩; go_simp; try with_reducible rfl
                        simp only [Act.put, List.setIfInBounds_toArray, List.set_cons_succ, List.set_cons_zero]
                        refine Lim.stepR 15 (fun _ => trivial) rfl (by kernel_rfl) (fun _ _ _ _ h => h) hC rfl ?_; apply Exists.intro; refine ⟨?_, ?_⟩
                        · rintro w ⟨r1, r2, r3, r4, r5⟩; go_simp; try with_reducible rfl
                        simp only [Act.put, List.setIfInBounds_toArray, List.set_cons_succ, List.set_cons_zero]
                        refine Lim.stepR 16 (fun _ => trivial) rfl (by kernel_rfl) (fun _ _ _ _ h => h) hC rfl ?_; apply Exists.intro; refine ⟨?_, ?_⟩
                        · rintro w ⟨r1, r2, r3, r4, r5⟩; go_simp; try with_reducible rfl
                        simp only [Act.put, List.setIfInBounds_toArray, List.set_cons_succ, List.set_cons_zero]
                        refine Lim.stepR 17 (fun _ => trivial) rfl (by kernel_rfl) (fun _ _ _ _ h => h) hC rfl ?_; apply Exists.intro; refine ⟨?_, ?_⟩
                        · rintro w ⟨r1, r2, r3, r4, r5⟩; go_simp; try with_reducible rfl
                        simp only [Act.put, List.setIfInBounds_toArray, List.set_cons_succ, List.set_cons_zero]
                        refine Lim.stepR 18 (fun _ => trivial) rfl (by kernel_rfl) (fun _ _ _ _ h => h) hC rfl ?_; apply Exists.intro; refine ⟨?_, ?_⟩
                        · rintro w ⟨r1, r2, r3, r4, r5⟩; go_simp; try with_reducible rfl
                        simp only [Act.put, List.setIfInBounds_toArray, List.set_cons_succ, List.set_cons_zero]
                        refine Lim.stepR 19 (fun _ => trivial) rfl (by kernel_rfl) (fun _ _ _ _ h => h) hC rfl ?_; apply Exists.intro; refine ⟨?_, ?_⟩
                        · rintro w ⟨r1, r2, r3, r4, r5⟩; go_simp; try with_reducible rfl
                        simp only [Act.put, List.setIfInBounds_toArray, List.set_cons_succ, List.set_cons_zero]
                        refine Lim.stepR 20 (fun _ => trivial) rfl (by kernel_rfl) (fun _ _ _ _ h => h) hC rfl ?_; apply Exists.intro; refine ⟨?_, ?_⟩
                        · rintro w ⟨r1, r2, r3, r4, r5⟩; go_simp; try with_reducible rfl
                        simp only [Act.put, List.setIfInBounds_toArray, List.set_cons_succ, List.set_cons_zero]
                        refine Lim.stepR 21 (fun _ => trivial) rfl (by kernel_rfl) (fun _ _ _ _ h => h) hC rfl ?_; apply Exists.intro; refine ⟨?_, ?_⟩
                        · rintro w ⟨r1, r2, r3, r4, r5⟩; go_simp; try with_reducible rfl
                        simp only [Act.put, List.setIfInBounds_toArray, List.set_cons_succ, List.set_cons_zero]
                        refine Lim.stepR 22 (fun _ => trivial) rfl (by kernel_rfl) (fun _ _ _ _ h => h) hC rfl ?_; apply Exists.intro; refine ⟨?_, ?_⟩
                        · rintro w ⟨r1, r2, r3, r4, r5⟩; go_simp; try with_reducible rfl
                        simp only [Act.put, List.setIfInBounds_toArray, List.set_cons_succ, List.set_cons_zero]
                        refine Lim.stepR 23 (fun _ => trivial) rfl (by kernel_rfl) (fun _ _ _ _ h => h) hC rfl ?_; apply Exists.intro; refine ⟨?_, ?_⟩
                        · rintro w ⟨r1, r2, r3, r4, r5⟩; go_simp; try with_reducible rfl
                        simp only [Act.put, List.setIfInBounds_toArray, List.set_cons_succ, List.set_cons_zero]
                        refine Lim.stepR 24 (fun _ => trivial) rfl (by kernel_rfl) (fun _ _ _ _ h => h) hC rfl ?_; apply Exists.intro; refine ⟨?_, ?_⟩
                        · rintro w ⟨r1, r2, r3, r4, r5⟩; go_simp; try with_reducible rfl
                        simp only [Act.put, List.setIfInBounds_toArray, List.set_cons_succ, List.set_cons_zero]
                        refine Lim.stepR 25 (fun _ => trivial) rfl (by kernel_rfl) (fun _ _ _ _ h => h) hC rfl ?_; apply Exists.intro; refine ⟨?_, ?_⟩
                        · rintro w ⟨r1, r2, r3, r4, r5⟩; go_simp; try with_reducible rfl
                        simp only [Act.put, List.setIfInBounds_toArray, List.set_cons_succ, List.set_cons_zero]
                        refine Lim.stepR 26 (fun _ => trivial) rfl (by kernel_rfl) (fun _ _ _ _ h => h) hC rfl ?_; apply Exists.intro; refine ⟨?_, ?_⟩
                        · rintro w ⟨r1, r2, r3, r4, r5⟩; go_simp; try with_reducible rfl
                        simp only [Act.put, List.setIfInBounds_toArray, List.set_cons_succ, List.set_cons_zero]
                        refine Lim.stepR 27 (fun _ => trivial) rfl (by kernel_rfl) (fun _ _ _ _ h => h) hC rfl ?_; apply Exists.intro; refine ⟨?_, ?_⟩
                        · rintro w ⟨r1, r2, r3, r4, r5⟩; go_simp; try with_reducible rfl
                        simp only [Act.put, List.setIfInBounds_toArray, List.set_cons_succ, List.set_cons_zero]
                        refine Lim.stepD (by kernel_rfl) ?_
                        clear hC d2 d2' d1'
                        go_wp2_with fail
                        go_roundw
                        case rel => exact ⟨j + 1, A2, by omega, by go_num, Lib.hid ⟨hJ.out.1.on (Below.refl _ _).drew, hJ.out.2.1, by
                          have h := hJ.out.2.2
                          rw [← HAX.out] at h ⊢
                          exact h.keep (by rw [← HDA.out, ← HX.out.2.2.2]; exact HLT.out)⟩⟩
                        case measure => simp [intOf]; omega
                · have hj' : ¬ (j : Int) < k := by omega
                  obtain rfl : j = k := by omega
                  go_wp2_with fail
                  go_roundw
                  case rel =>
                    refine ⟨i + 1, A2, by omega, by go_num, Lib.hid ⟨hJ.out.1, fun x hx => ?_⟩⟩
                    by_cases e : x = i
                    · rw [e]; exact hJ.out.2.2
                    · exact hJ.out.2.1 x (by omega)
                  case measure => simp [intOf]; omega
            · have hi' : ¬ (i : Int) < k := by omega
              obtain rfl : i = k := by omega
              go_wp2_with fail
              go_ret3
              exact HFIN.out gd ga A _ (HB2.out.trans (hI.out.1.be.mono HB2.out.size)) (fun x hx => (hI.out.2 x hx).ar HM.out.1 HRK.out.1 HRK.out.2.ex hx) hI.out.1.rd.rs hI.out.1.ra.rs
end Go.Proofs.Ytkjcnkkmhkcddaa
