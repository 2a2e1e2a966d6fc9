/-
  Parts of the proof, in the order in which they build: QiL.
-/
import Derived.Test.YtohjinbgbfggcaaA15
import Derived.Test.YtohjinbgbfggcaaA16
set_option linter.unusedVariables false
set_option linter.unusedSimpArgs false
namespace Go.Proofs.Ytohjinbgbfggcaa
open Go.RowKit Go.Shelf
open Lim
attribute [local go_sem] Oper.semAt_some

set_option maxHeartbeats 400000 in
theorem proves1_any (x : Int) (w : World) : Calls Try.prog 55 #[.int .i64 x] w fun e w' => e = .returned (.bool (inR x 0 40)) ∧ Below w.heap.size w w' := by
  obtain ⟨z, hz⟩ : ∃ z, inR x 0 40 = z := ⟨_, rfl⟩
  rw [hz]
  have HZ := Lib.hid hz
  clear hz
  go_enter Try.func55, Try.ntmps55
  go_wp2_with fail
  refine (in_any _ _ _ _).mono ?_
  rintro e w' ⟨rfl, rfl⟩
  rw [HZ.out]
  go_wp2
  go_ret
  exact ⟨rfl, Below.refl _ _⟩
def inLev (l : List Int) : Bool := l.all fun x => inR x 0 40
/-- what Proves answers -/
def ProvAns (w : World) (p : Pf) (l : List Int) (e : Ending) (w' : World) : Prop :=
  Below w.heap.size w w' ∧ ∃ r er : Int, e = .returned (.tuple #[.int .i64 r, .int .i64 er]) ∧
    ((p.err ≠ 0 ∧ r = 0 ∧ er = p.err) ∨ (p.err = 0 ∧ l.length ≠ p.n ∧ r = 0 ∧ er = 2) ∨ (p.err = 0 ∧ l.length = p.n ∧ inLev l = false ∧ r = 0 ∧ er = 4) ∨
      (p.err = 0 ∧ l.length = p.n ∧ inLev l = true ∧ ¬ Proof p.n p.sure l ∧ r = 0 ∧ er = 9) ∨
      (p.err = 0 ∧ l.length = p.n ∧ inLev l = true ∧ Proof p.n p.sure l ∧ r = l.getD (p.n - 1) 0 - l.getD 0 0 + 1 ∧ er = 0))
theorem two_cells {W : World} {q4 q5 : Nat} {u v : Value} (h4 : W.cell? ⟨q4, 0, none⟩ = some u) (h5 : W.cell? ⟨q5, 0, none⟩ = some v) (ne : q4 ≠ q5) (x y : Value) :
    ((W.setCell ⟨q4, 0, none⟩ x).setCell ⟨q5, 0, none⟩ y).cell? ⟨q4, 0, none⟩ = some x ∧ ((W.setCell ⟨q4, 0, none⟩ x).setCell ⟨q5, 0, none⟩ y).cell? ⟨q5, 0, none⟩ = some y := by
  refine ⟨?_, World.cell?_setCell_same' _ _ _ (by rw [setCell_farP _ _ ne, h5]; rfl)⟩
  rw [setCell_farP _ _ (fun e => ne e.symm)]
  exact World.cell?_setCell_same' _ _ _ (by rw [h4]; rfl)
/-- what lies in memory while Proves runs -/
structure PvM (w : World) (b n ac q vc : Nat) (a va : Option Addr) (S : Nat → Nat → Bool) (W : World) : Prop where
  be : Below w.heap.size w W
  wk : WkN b n ac a S W
  hq : w.heap.size ≤ q
  k3 : W.cell? ⟨q + 1, 0, none⟩ = some (.slice va n vc)
  c4 : W.cell? ⟨q + 1 + 1, 0, none⟩ = some (.int .i64 0)
  c5 : W.cell? ⟨q + 1 + 1 + 1, 0, none⟩ = some (.int .i64 0)
  f4 : W.frozen? ⟨q + 1 + 1, 0, none⟩ = false
  f5 : W.frozen? ⟨q + 1 + 1 + 1, 0, none⟩ = false
section
variable {w : World} {b n ac q vc : Nat} {a va : Option Addr} {S : Nat → Nat → Bool} {W W' : World}
theorem PvM.grow (h : PvM w b n ac q vc a va S W) (hb : Below W.heap.size W W') : PvM w b n ac q vc a va S W' :=
  ⟨h.be.trans (hb.mono h.be.size), h.wk.grow hb, h.hq, hb.on h.k3, hb.on h.c4, hb.on h.c5, (hb.frozen (p := ⟨q + 1 + 1, 0, none⟩) (World.block_lt_of_cell? _ _ h.c4)).trans h.f4, (hb.frozen (p := ⟨q + 1 + 1 + 1, 0, none⟩) (World.block_lt_of_cell? _ _ h.c5)).trans h.f5⟩
theorem PvM.steady (h : PvM w b n ac q vc a va S W) {B : Nat} (hs : Steady B W W') (hB : w.heap.size ≤ B) : PvM w b n ac q vc a va S W' :=
  ⟨h.be.steady hs hB h.be.size, h.wk.steady hs, h.hq, hs.cell h.k3, hs.cell h.c4, hs.cell h.c5, (hs.frozen h.c4).trans h.f4, (hs.frozen h.c5).trans h.f5⟩
/-- the answer is laid down -/
theorem PvM.out (h : PvM w b n ac q vc a va S W) (x y : Int) : Below w.heap.size w ((W.setCell ⟨q + 1 + 1, 0, none⟩ (.int .i64 x)).setCell ⟨q + 1 + 1 + 1, 0, none⟩ (.int .i64 y)) ∧
    ((W.setCell ⟨q + 1 + 1, 0, none⟩ (.int .i64 x)).setCell ⟨q + 1 + 1 + 1, 0, none⟩ (.int .i64 y)).cell? ⟨q + 1 + 1, 0, none⟩ = some (.int .i64 x) ∧
    ((W.setCell ⟨q + 1 + 1, 0, none⟩ (.int .i64 x)).setCell ⟨q + 1 + 1 + 1, 0, none⟩ (.int .i64 y)).cell? ⟨q + 1 + 1 + 1, 0, none⟩ = some (.int .i64 y) :=
  ⟨(h.be.setCell (p := ⟨q + 1 + 1, 0, none⟩) (by show w.heap.size ≤ q + 1 + 1; have := h.hq; omega) _).setCell (p := ⟨q + 1 + 1 + 1, 0, none⟩) (by show w.heap.size ≤ q + 1 + 1 + 1; have := h.hq; omega) _, two_cells h.c4 h.c5 (by omega) _ _⟩
end
/-- the frame of Proves while its loop runs -/
def FrP (b n q i : Nat) (a : Act) : Prop :=
  a = { tmps := #[Lim.sl a 0, Lim.sl a 1, .pointer (some ⟨q, 0, none⟩), .pointer (some ⟨q + 1, 0, none⟩), .pointer (some ⟨q + 1 + 1, 0, none⟩), .pointer (some ⟨q + 1 + 1 + 1, 0, none⟩), .pointer (some ⟨b, 0, none⟩), Lim.sl a 7, Lim.sl a 8, Lim.sl a 9, Lim.sl a 10, Lim.sl a 11, Lim.sl a 12, Lim.sl a 13, Lim.sl a 14, Lim.sl a 15, Lim.sl a 16, Lim.sl a 17, Lim.sl a 18, Lim.sl a 19, Lim.sl a 20, Lim.sl a 21, Lim.sl a 22, Lim.sl a 23, Lim.sl a 24, Lim.sl a 25, Lim.sl a 26, Lim.sl a 27, Lim.sl a 28, Lim.sl a 29, Lim.sl a 30, Lim.sl a 31, .int .i64 n, .int .i64 i, Lim.sl a 34, Lim.sl a 35, Lim.sl a 36, Lim.sl a 37, Lim.sl a 38, Lim.sl a 39, Lim.sl a 40, Lim.sl a 41, Lim.sl a 42, Lim.sl a 43, Lim.sl a 44, Lim.sl a 45, Lim.sl a 46, Lim.sl a 47, Lim.sl a 48, Lim.sl a 49, Lim.sl a 50, Lim.sl a 51, Lim.sl a 52, Lim.sl a 53, Lim.sl a 54, Lim.sl a 55, Lim.sl a 56, Lim.sl a 57, Lim.sl a 58, Lim.sl a 59, Lim.sl a 60, Lim.sl a 61], defers := a.defers }
set_option maxRecDepth 100000 in
set_option maxHeartbeats 2000000 in
theorem Proves_any {B : Nat} {p : Pf} {av gv v : Value} {l : List Int} {w : World} (hB : B ≤ w.heap.size) (ha : RS B w av p.ats.length (ints p.ats)) (hg : RS B w gv p.gr.length (spans p.gr)) (hv : RS B w v l.length (ints l)) (hm : l.length ≤ 90000) :
    Calls Try.prog 29 #[.agg #[av, gv, .int .i64 p.tall, .int .i64 p.lo, .int .i64 p.hi], v] w (ProvAns w p l) := by
  have HXS := Lib.hid (And.intro hv hm)
  have HR := Lib.hid (And.intro hB (And.intro ha hg))
  obtain ⟨tl, htl⟩ : ∃ x, x = p.tall := ⟨_, rfl⟩
  obtain ⟨lo, hlo⟩ : ∃ x, x = p.lo := ⟨_, rfl⟩
  obtain ⟨hi, hhi⟩ : ∃ x, x = p.hi := ⟨_, rfl⟩
  have HOP : Hid (∀ W, Below w.heap.size w W → Calls Try.prog 18 #[.agg #[av, gv, .int .i64 tl, .int .i64 lo, .int .i64 hi]] W (OpAns W p av gv)) := Lib.hid fun W hW => by
    rw [htl, hlo, hhi]
    exact opened_any (Nat.le_trans hB hW.size) (ha.below (hW.mono hB)) (hg.below (hW.mono hB))
  rw [← htl, ← hlo, ← hhi]
  have HT := Lib.hid (And.intro htl (And.intro hlo hhi))
  obtain ⟨va, vc, rfl, -⟩ := hv
  obtain ⟨m, hml⟩ : ∃ m, m = l.length := ⟨_, rfl⟩
  rw [← hml] at HXS ⊢
  have HML := Lib.hid hml
  have HM : Hid (Below w.heap.size w ((((w.alloc (.cells #[av, gv, .int .i64 tl, .int .i64 lo, .int .i64 hi] 30)).alloc (.cells #[.slice va m vc] 25)).alloc (.cells #[.int .i64 0] 3)).alloc (.cells #[.int .i64 0] 35)) ∧ (∃ cs, ((((w.alloc (.cells #[av, gv, .int .i64 tl, .int .i64 lo, .int .i64 hi] 30)).alloc (.cells #[.slice va m vc] 25)).alloc (.cells #[.int .i64 0] 3)).alloc (.cells #[.int .i64 0] 35)).heap[w.heap.size]? = some (.cells cs 30 (0, 0)) ∧ cs = #[av, gv, .int .i64 tl, .int .i64 lo, .int .i64 hi]) ∧ ((((w.alloc (.cells #[av, gv, .int .i64 tl, .int .i64 lo, .int .i64 hi] 30)).alloc (.cells #[.slice va m vc] 25)).alloc (.cells #[.int .i64 0] 3)).alloc (.cells #[.int .i64 0] 35)).cell? ⟨w.heap.size + 1, 0, none⟩ = some (.slice va m vc) ∧
      ((((w.alloc (.cells #[av, gv, .int .i64 tl, .int .i64 lo, .int .i64 hi] 30)).alloc (.cells #[.slice va m vc] 25)).alloc (.cells #[.int .i64 0] 3)).alloc (.cells #[.int .i64 0] 35)).cell? ⟨w.heap.size + 1 + 1, 0, none⟩ = some (.int .i64 0) ∧ ((((w.alloc (.cells #[av, gv, .int .i64 tl, .int .i64 lo, .int .i64 hi] 30)).alloc (.cells #[.slice va m vc] 25)).alloc (.cells #[.int .i64 0] 3)).alloc (.cells #[.int .i64 0] 35)).cell? ⟨w.heap.size + 1 + 1 + 1, 0, none⟩ = some (.int .i64 0) ∧ ((((w.alloc (.cells #[av, gv, .int .i64 tl, .int .i64 lo, .int .i64 hi] 30)).alloc (.cells #[.slice va m vc] 25)).alloc (.cells #[.int .i64 0] 3)).alloc (.cells #[.int .i64 0] 35)).frozen? ⟨w.heap.size + 1 + 1, 0, none⟩ = false ∧ ((((w.alloc (.cells #[av, gv, .int .i64 tl, .int .i64 lo, .int .i64 hi] 30)).alloc (.cells #[.slice va m vc] 25)).alloc (.cells #[.int .i64 0] 3)).alloc (.cells #[.int .i64 0] 35)).frozen? ⟨w.heap.size + 1 + 1 + 1, 0, none⟩ = false) := Lib.hid (by
    have b0 : Below w.heap.size w (w.alloc (.cells #[av, gv, .int .i64 tl, .int .i64 lo, .int .i64 hi] 30)) := (Below.refl _ w).alloc (Nat.le_refl _) _
    have hh := heap_alloc_newP w (.cells #[av, gv, .int .i64 tl, .int .i64 lo, .int .i64 hi] 30)
    have b1 : Below (w.alloc (.cells #[av, gv, .int .i64 tl, .int .i64 lo, .int .i64 hi] 30)).heap.size (w.alloc (.cells #[av, gv, .int .i64 tl, .int .i64 lo, .int .i64 hi] 30)) ((((w.alloc (.cells #[av, gv, .int .i64 tl, .int .i64 lo, .int .i64 hi] 30)).alloc (.cells #[.slice va m vc] 25)).alloc (.cells #[.int .i64 0] 3)).alloc (.cells #[.int .i64 0] 35)) := (((Below.refl _ _).alloc (Nat.le_refl _) _).alloc (by simp) _).alloc (by simp) _
    refine ⟨b0.trans (b1.mono b0.size), ⟨_, (b1.block _ (by simp)).trans hh, rfl⟩, ?_, ?_, ?_, ?_, ?_⟩ <;> simp [go_sem])
  clear hB htl hlo hhi ha hg hm hml
  refine (callsIn_wide (n := 2)).1 (callsIn_of_wp_marks Try.func29 rfl trivial ?_ rfl)
  simp only [Try.ntmps29, List.size_toArray, List.length_cons, List.length_nil, Nat.reduceAdd, Nat.reduceSub, Array.replicate_succ, Array.replicate_zero, List.push_toArray, List.append_toArray, List.nil_append, List.cons_append]
  refine wpIn_wide.2 ?_
  refine wp_noPanic ?_
  go_upto_region 1 with (fail)
  obtain ⟨q, hq⟩ : ∃ q, q = w.heap.size := ⟨_, rfl⟩
  have HQ := Lib.hid hq.symm
  rw [← hq] at HM
  simp only [← hq]
  clear hq
  generalize (((w.alloc (.cells #[av, gv, .int .i64 tl, .int .i64 lo, .int .i64 hi] 30)).alloc (.cells #[.slice va m vc] 25)).alloc (.cells #[.int .i64 0] 3)).alloc (.cells #[.int .i64 0] 35) = w1 at HM ⊢
  obtain ⟨-, ⟨cs, hcs, hcs2⟩, k3, c4, c5, f4, f5⟩ := HM.out
  rw [hcs2] at hcs
  obtain ⟨⟨k0, k1, k2, k30, k40⟩, -⟩ := five_cells hcs
  have HW1 : Hid (Below w.heap.size w w1) := Lib.hid (by rw [HQ.out]; exact HM.out.1)
  clear hcs hcs2
  go_wp2_with fail
  refine (HOP.out _ HW1.out).mono ?_
  rintro e w2 ⟨hb2, hans⟩
  have hk0 := hb2.on k0
  have hk3 := hb2.on k3
  have hf4 := (hb2.frozen (p := ⟨q + 1 + 1, 0, none⟩) (World.block_lt_of_cell? _ _ c4)).trans f4
  have hf5 := (hb2.frozen (p := ⟨q + 1 + 1 + 1, 0, none⟩) (World.block_lt_of_cell? _ _ c5)).trans f5
  have hc4 := hb2.on c4
  have hc5 := hb2.on c5
  have HB2 : Hid (Below w.heap.size w w2) := Lib.hid (HW1.out.trans (hb2.mono HW1.out.size))
  clear hb2 k0 k1 k2 k30 k40 k3 c4 c5 f4 f5 HM
  have HOUT : Hid (∀ x y : Int, Below w.heap.size w ((w2.setCell ⟨q + 1 + 1, 0, none⟩ (.int .i64 x)).setCell ⟨q + 1 + 1 + 1, 0, none⟩ (.int .i64 y)) ∧
    ((w2.setCell ⟨q + 1 + 1, 0, none⟩ (.int .i64 x)).setCell ⟨q + 1 + 1 + 1, 0, none⟩ (.int .i64 y)).cell? ⟨q + 1 + 1, 0, none⟩ = some (.int .i64 x) ∧
    ((w2.setCell ⟨q + 1 + 1, 0, none⟩ (.int .i64 x)).setCell ⟨q + 1 + 1 + 1, 0, none⟩ (.int .i64 y)).cell? ⟨q + 1 + 1 + 1, 0, none⟩ = some (.int .i64 y)) := Lib.hid fun x y =>
      ⟨(HB2.out.setCell (p := ⟨q + 1 + 1, 0, none⟩) (by show w.heap.size ≤ q + 1 + 1; have := HQ.out; omega) _).setCell (p := ⟨q + 1 + 1 + 1, 0, none⟩) (by show w.heap.size ≤ q + 1 + 1 + 1; have := HQ.out; omega) _, two_cells hc4 hc5 (by omega) _ _⟩
  rcases hans with ⟨hne, rfl⟩ | ⟨he, b, rfl, hge, hc, hk⟩
  · obtain ⟨er, her⟩ : ∃ x, x = p.err := ⟨_, rfl⟩
    have HER := Lib.hid (And.intro her hne)
    rw [← her] at hne ⊢
    clear her
    have d1 : (er != 0) = true := by simp [hne]
    clear hne
    go_wp2
    refine leaves_marks (B := w.heap.size) _ (Marks.nil _ _) (fun w' hs => ⟨.tuple #[.int .i64 0, .int .i64 er], ?_, (HOUT.out 0 er).1.steady hs (Nat.le_refl _) (HOUT.out 0 er).1.size, 0, er, rfl, .inl ⟨HER.out.2, rfl, HER.out.1⟩⟩)
    have h4 := hs.cell (HOUT.out 0 er).2.1
    have h5 := hs.cell (HOUT.out 0 er).2.2
    simp [results, Try.f29, go_sem, h4, h5]
  · have HP : Hid p.Ok := Lib.hid (err_ok he)
    have HE0 := Lib.hid (And.intro he hge)
    obtain ⟨ab, ao, ac, gb, go, gc, rfl, rfl, hl⟩ := pf_lists HP.out HR.out.2.1 HR.out.2.2
    obtain ⟨n, hn⟩ : ∃ x, x = p.n := ⟨_, rfl⟩
    have HW : Hid (WkN b n ac (some ⟨ab, ao, none⟩) (suTo p p.n 0) w2) := Lib.hid ⟨by rw [hn]; exact hc.c0, fun i j hi hj => hk.s i j hi hj⟩
    rw [← hn] at hk0 ⊢
    have HN : Hid (n = p.n) := Lib.hid hn
    have n40 : n ≤ 40 := by rw [hn]; exact HP.out.n40
    have n2 : 2 ≤ n := by rw [hn]; exact HP.out.n2
    clear hn hc hk hl he hge HOP
    by_cases hmn : m = n
    · subst hmn
      have d2 : ((m : Int) != (m : Int)) = false := by simp
      have H1 : Hid (Calls Try.prog 48 #[.slice va m vc, .func (.func 55) #[] #[]] w2 fun e w' => e = .returned (.bool (inLev l)) ∧ Below w2.heap.size w2 w') := Lib.hid (by
        have h1 := every_int (B := B) (lb := #[]) (p := fun k => inR (l.getD k 0) 0 40) (w := w2) (v := .slice va m vc) (xs := l) (enters_of Try.func55 (by kernel_rfl) rfl) (by have := HXS.out.2; have := HML.out; omega) (by have h := HXS.out.1.below (HB2.out.mono HR.out.1); rw [HML.out] at h; rw [HML.out]; exact h) (Nat.le_trans HR.out.1 HB2.out.size) (fun k hk W hW => by simpa using proves1_any (l.getD k 0) W)
        rw [show ((List.range l.length).all fun k => inR (l.getD k 0) 0 40) = inLev l from all_at l (fun x => inR x 0 40)] at h1
        exact h1)
      go_wp2_with fail
      refine H1.out.mono ?_
      rintro e w3 ⟨rfl, hb3⟩
      have hk03 := hb3.on hk0
      have hk33 := hb3.on hk3
      have hc43 := hb3.on hc4
      have hc53 := hb3.on hc5
      have hf43 := (hb3.frozen (p := ⟨q + 1 + 1, 0, none⟩) (World.block_lt_of_cell? _ _ hc4)).trans hf4
      have hf53 := (hb3.frozen (p := ⟨q + 1 + 1 + 1, 0, none⟩) (World.block_lt_of_cell? _ _ hc5)).trans hf5
      have HM3 : Hid (PvM w b m ac q vc (some ⟨ab, ao, none⟩) va (suTo p p.n 0) w3) := Lib.hid ⟨HB2.out.trans (hb3.mono HB2.out.size), HW.out.grow hb3, by rw [HQ.out]; exact Nat.le_refl _, hk33, hc43, hc53, hf43, hf53⟩
      clear hb3 hk0 hk3 hc4 hc5 hf4 hf5 HOUT H1 HW
      cases hin : inLev l with
      | false =>
        have HI := Lib.hid hin
        clear hin
        have HO := Lib.hid (HM3.out.out 0 4)
        go_wp2
        refine leaves_marks (B := w.heap.size) _ (Marks.nil _ _) (fun w' hs => ⟨.tuple #[.int .i64 0, .int .i64 4], ?_, HO.out.1.steady hs (Nat.le_refl _) HO.out.1.size, 0, 4, rfl, .inr (.inr (.inl ⟨HE0.out.1, by rw [← HN.out]; exact HML.out.symm, HI.out, rfl, rfl⟩))⟩)
        have h4 := hs.cell HO.out.2.1
        have h5 := hs.cell HO.out.2.2
        simp [results, Try.f29, go_sem, h4, h5]
      | true =>
        have HI := Lib.hid hin
        clear hin
        obtain ⟨vb, vo, rfl, hvc⟩ : ∃ vb vo, va = some ⟨vb, vo, none⟩ ∧ Hid (∀ W, Below w.heap.size w W → ∀ j, j < m → W.cell? ⟨vb, vo + j, none⟩ = some (.int .i64 (l.getD j 0))) := by
          obtain ⟨a2, c2, e2, h2⟩ := HXS.out.1
          cases e2
          obtain ⟨vb, vo, rfl, h3, h4⟩ := h2 (ints_ne (by have := HML.out; omega))
          refine ⟨vb, vo, rfl, Lib.hid fun W hW j hj => ?_⟩
          have h5 := h4 j _ (ints_at' l j (by have := HML.out; omega))
          rw [(hW.mono HR.out.1).cell (p := ⟨vb, vo + j, none⟩) h3, h5, ← List.getD_eq_getElem?_getD]
        go_wp2_with fail
        obtain ⟨S, hS⟩ : ∃ S, S = suTo p p.n 0 := ⟨_, rfl⟩
        have HS := Lib.hid hS
        rw [← hS] at HM3
        clear hS hk33 hc43 hc53 hf43 hf53
        refine wp_loop_ghost_k (fun mm a' W => ∃ i : Nat, FrP b m q i a' ∧ Marks w.heap.size a'.defers W ∧ Hid (PvM w b m ac q vc (some ⟨ab, ao, none⟩) (some ⟨vb, vo, none⟩) S W ∧ mm = m - i ∧ i ≤ m ∧ ∀ x, x < i → ∀ y, x < y → y < m → S x y = true → l.getD y 0 ≤ l.getD x 0 + 1)) m ⟨0, rfl, Marks.nil _ _, Lib.hid ⟨HM3.out, rfl, Nat.zero_le _, fun x hx => absurd hx (Nat.not_lt_zero x)⟩⟩ ?_
        clear HM3
        rintro mm a' W ⟨i, hfr, hm, hI⟩ J K hJ hK
        unfold FrP at hfr
        generalize a'.defers = ds at hfr hm
        generalize Lim.sl a' = x at hfr
        subst hfr
        by_cases hlt : i < m
        · have g1 : decide ((i : Int) < m) = true := decide_eq_true (by omega)
          go_wp2_with (go_at_call 56; refine (ahead_any _ _ _ ⟨_, rfl⟩ ⟨_, rfl⟩).mono ?_; rintro e w' ⟨rfl, rfl⟩)
          obtain ⟨q7, hq7⟩ : ∃ x, x = W.heap.size := ⟨_, rfl⟩
          have bW : Below W.heap.size W (W.alloc (.cells #[.int .i64 i] 3)) := (Below.refl _ W).alloc (Nat.le_refl _) _
          have hI2 := Lib.hid (hI.out.1.grow bW)
          have hm2 := hm.keep (keeps_of_below bW)
          have c7 : (W.alloc (.cells #[.int .i64 i] 3)).cell? ⟨W.heap.size, 0, none⟩ = some (.int .i64 i) := by simp [go_sem]
          have hsz2 : (W.alloc (.cells #[.int .i64 i] 3)).heap.size = q7 + 1 := by rw [hq7]; simp
          have HQ7 : Hid (q + 1 + 1 + 1 < q7) := Lib.hid (by rw [hq7]; exact World.block_lt_of_cell? _ _ hI.out.1.c5)
          simp only [← hq7] at c7 ⊢
          generalize W.alloc (.cells #[.int .i64 i] 3) = W2 at hI2 hm2 c7 hsz2 ⊢
          clear bW hm
          have hCn := hI2.out.wk.ahead (i := i) (by omega)
          have hB3 : Below W2.heap.size W2 ((W2.alloc (.cells #[.pointer (some ⟨b, 0, none⟩)] 58)).alloc (.cells #[.int .i64 i] 3)) := ((Below.refl _ W2).alloc (Nat.le_refl _) _).alloc (by simp) _
          have c73 := hB3.on c7
          rw [hsz2] at hCn
          generalize (W2.alloc (.cells #[.pointer (some ⟨b, 0, none⟩)] 58)).alloc (.cells #[.int .i64 i] 3) = W3 at hCn hB3 c73 ⊢
          have HI3 := Lib.hid (And.intro (hI2.out.grow hB3) hI.out.2)
          have hm3 := MarksLt.of_marks (hm2.keep (keeps_of_below hB3))
          have HGE : Hid (w.heap.size ≤ W3.heap.size ∧ q7 + 1 ≤ W3.heap.size) := Lib.hid ⟨HI3.out.1.be.size, by rw [← hsz2]; exact hB3.size⟩
          clear hB3 hI c7 hm2 hI2 hsz2 hq7
          refine wp_range (xs := aheadL (S i) m i) rfl (enters_of Try.func76 (by kernel_rfl) rfl) (Ca (q7 + 1) (q7 + 1 + 1) b m i (S i) (some ⟨ab, ao, none⟩) ac)
            (ahead_iter n40 hlt hCn)
            (fun pre W4 => Hid (∀ y : Nat, (y : Int) ∈ pre → l.getD y 0 ≤ l.getD i 0 + 1) ∧ Hid (PvM w b m ac q vc (some ⟨ab, ao, none⟩) (some ⟨vb, vo, none⟩) S W4) ∧ Hid (MarksLt w.heap.size W3.heap.size ds W4) ∧ W4.cell? ⟨q7, 0, none⟩ = some (.int .i64 i) ∧ Ca (q7 + 1) (q7 + 1 + 1) b m i (S i) (some ⟨ab, ao, none⟩) ac W4)
            (fun cd _ W4 => cd = .ret ∧ Hid (∃ y, i < y ∧ y < m ∧ S i y = true ∧ ¬ l.getD y 0 ≤ l.getD i 0 + 1) ∧ Hid (Below w.heap.size w W4 ∧ W4.cell? ⟨q + 1 + 1, 0, none⟩ = some (.int .i64 0) ∧ W4.cell? ⟨q + 1 + 1 + 1, 0, none⟩ = some (.int .i64 9)) ∧ Hid (MarksLt w.heap.size W3.heap.size ds W4))
            (fun _ _ h => h.2.2.2.2) (fun _ _ h hs => h.steady hs) ?sI ?sX
            ⟨Lib.hid (fun y h => (by cases h)), Lib.hid HI3.out.1, Lib.hid hm3, c73, hCn⟩
            (fun z => { tmps := #[x 0, x 1, .pointer (some ⟨q, 0, none⟩), .pointer (some ⟨q + 1, 0, none⟩), .pointer (some ⟨q + 1 + 1, 0, none⟩), .pointer (some ⟨q + 1 + 1 + 1, 0, none⟩), .pointer (some ⟨b, 0, none⟩), x 7, .pointer (some ⟨q7, 0, none⟩), .int .i64 z, x 10, x 11, x 12, x 13, x 14, x 15, x 16, x 17, x 18, x 19, x 20, x 21, x 22, x 23, x 24, x 25, x 26, x 27, x 28, x 29, x 30, x 31, .int .i64 m, .int .i64 i, .bool true, .int .i64 i, .pointer (some ⟨b, 0, none⟩), .int .i64 i, .func (.func 76) #[] #[.pointer (some ⟨q7 + 1 + 1, 0, none⟩), .pointer (some ⟨q7 + 1, 0, none⟩)], .int .i64 z, x 40, x 41, x 42, x 43, x 44, x 45, x 46, x 47, x 48, x 49, x 50, x 51, x 52, x 53, x 54, x 55, x 56, x 57, x 58, x 59, x 60, x 61], defers := [] }) ?assign ?body ?done ?stop
          case sI =>
            rintro _ _ _ ⟨h1, h2, h3, h4, h5⟩ hs
            exact ⟨h1, Lib.hid (h2.out.steady hs HGE.out.1), Lib.hid (h3.out.steady hs), hs.cell h4, h5.steady hs⟩
          case sX =>
            rintro _ _ _ _ ⟨h0, h1, h2, h3⟩ hs
            exact ⟨h0, h1, Lib.hid ⟨h2.out.1.steady hs HGE.out.1 h2.out.1.size, hs.cell h2.out.2.1, hs.cell h2.out.2.2⟩, Lib.hid (h3.out.steady hs)⟩
          case assign =>
            intro lp z W K hK
            gi_wp2
            exact hK
          case stop =>
            rintro D cd pre W4 hD hpre ⟨rfl, h1, h2, h3⟩ hk
            have hm4 := h3.out.cons HGE.out.1 hD hk
            go_wp2
            refine leaves_marks (B := w.heap.size) _ hm4 (fun w' hs => ⟨.tuple #[.int .i64 0, .int .i64 9], ?_, h2.out.1.steady hs (Nat.le_refl _) h2.out.1.size, 0, 9, rfl, .inr (.inr (.inr (.inl ⟨HE0.out.1, by rw [← HN.out]; exact HML.out.symm, HI.out, ?_, rfl, rfl⟩)))⟩)
            · have h4 := hs.cell h2.out.2.1
              have h5 := hs.cell h2.out.2.2
              simp [results, Try.f29, go_sem, h4, h5]
            · intro hpr
              obtain ⟨y, h5, h6, h7, h8⟩ := h1.out
              have h9 := hpr i y h5 (by rw [← HN.out]; exact h6) (by rw [← suTo_sure p h5 (by rw [← HN.out]; exact h6), ← HS.out]; exact h7)
              omega
          case done =>
            rintro D W4 hD ⟨h1, h2, h3, h4, h5⟩ hk
            have hm4 := h3.out.cons HGE.out.1 hD hk
            have hw1 : IntKind.i64.wrap ((i : Int) + 1) = ((i + 1 : Nat) : Int) := by rw [IntWalk.i64_in _ (by omega)]; omega
            have HD : Hid (∀ x, x < i + 1 → ∀ y, x < y → y < m → S x y = true → l.getD y 0 ≤ l.getD x 0 + 1) := Lib.hid (fun x hx y hxy hy hs => by
              by_cases e : x = i
              · subst e; exact h1.out y ((mem_aheadL hlt).2 ⟨y, rfl, hxy, hy, hs⟩)
              · exact HI3.out.2.2.2 x (by omega) y hxy hy hs)
            clear h1 h3 h5
            go_wp2_with fail
            exact .intro (m - (i + 1)) (by have := HI3.out.2.1; omega) (hJ _ _ _ ⟨i + 1, rfl, hm4, Lib.hid ⟨h2.out, rfl, hlt, HD.out⟩⟩)
          case body =>
            rintro lp pre z W4 hx ⟨h1, h2, h3, h4, h5⟩
            obtain ⟨j, rfl, hij, hjn, hSj⟩ := (mem_aheadL hlt).1 hx
            have d3 := h2.out.k3
            have cj := hvc.out W4 h2.out.be j hjn
            have ci := hvc.out W4 h2.out.be i hlt
            have HB := Lib.hid (And.intro hij (And.intro hjn hSj))
            obtain ⟨vj, hvj⟩ : ∃ v, v = l.getD j 0 := ⟨_, rfl⟩
            obtain ⟨vi, hvi⟩ : ∃ v, v = l.getD i 0 := ⟨_, rfl⟩
            have ti : 0 ≤ vi ∧ vi ≤ 40 := by
              have h6 := (List.all_eq_true.1 HI.out) (l[i]'(by have := HML.out; omega)) (List.getElem_mem _)
              have h7 := inR_iff.1 h6
              rw [hvi, List.getD_eq_getElem?_getD, List.getElem?_eq_getElem (by have := HML.out; omega)]
              exact h7
            rw [← hvj] at cj
            rw [← hvi] at ci
            have HV := Lib.hid (And.intro hvj hvi)
            have hw1 : IntKind.i64.wrap (vi + 1) = vi + 1 := IntWalk.i64_in _ (by omega)
            clear hx hSj hvj hvi hij ti
            gi_wp2_with fail
            have hC : (fun w => w.cell? ⟨q + 1, 0, none⟩ = some (.slice (some ⟨vb, vo, none⟩) m vc) ∧ w.cell? ⟨q7, 0, none⟩ = some (.int .i64 i) ∧ w.cell? ⟨vb, vo + j, none⟩ = some (.int .i64 vj) ∧ w.cell? ⟨vb, vo + i, none⟩ = some (.int .i64 vi)) W4.drew := ⟨d3, h4, cj, ci⟩
            by_cases hgt : vi + 1 < vj
            · have g5 : decide (vi + 1 < vj) = true := decide_eq_true hgt
              have HX : Hid (∃ y, i < y ∧ y < m ∧ S i y = true ∧ ¬ l.getD y 0 ≤ l.getD i 0 + 1) := Lib.hid ⟨j, HB.out.1, HB.out.2.1, HB.out.2.2, by rw [← HV.out.1, ← HV.out.2]; omega⟩
              refine Lim.regC (fun w => w.cell? ⟨q + 1, 0, none⟩ = some (.slice (some ⟨vb, vo, none⟩) m vc) ∧ w.cell? ⟨q7, 0, none⟩ = some (.int .i64 i) ∧ w.cell? ⟨vb, vo + j, none⟩ = some (.int .i64 vj) ∧ w.cell? ⟨vb, vo + i, none⟩ = some (.int .i64 vi)) [] #[false, false, false, false, false, false, false, false, false, false] (by kernel_rfl) rfl ?_
              refine Lim.stepR 0 (fun _ => trivial) rfl (by kernel_rfl) (fun _ _ _ _ h => h) hC rfl ?_; apply Exists.intro; refine ⟨?_, ?_⟩
              · rintro w ⟨r1, r2, r3, r4⟩; go_simp; try with_reducible rfl
              simp only [Act.put, List.setIfInBounds_toArray, List.set_cons_succ, List.set_cons_zero]
              refine Lim.stepR 1 (fun _ => trivial) rfl (by kernel_rfl) (fun _ _ _ _ h => h) hC rfl ?_; apply Exists.intro; refine ⟨?_, ?_⟩
              · rintro w ⟨r1, r2, r3, r4⟩; go_simp; try with_reducible rfl
              simp only [Act.put, List.setIfInBounds_toArray, List.set_cons_succ, List.set_cons_zero]
              refine Lim.stepR 2 (fun _ => trivial) rfl (by kernel_rfl) (fun _ _ _ _ h => h) hC rfl ?_; apply Exists.intro; refine ⟨?_, ?_⟩
              · rintro w ⟨r1, r2, r3, r4⟩; go_simp; try with_reducible rfl
              simp only [Act.put, List.setIfInBounds_toArray, List.set_cons_succ, List.set_cons_zero]
              refine Lim.stepR 3 (fun _ => trivial) rfl (by kernel_rfl) (fun _ _ _ _ h => h) hC rfl ?_; apply Exists.intro; refine ⟨?_, ?_⟩
              · rintro w ⟨r1, r2, r3, r4⟩; go_simp; try with_reducible rfl
              simp only [Act.put, List.setIfInBounds_toArray, List.set_cons_succ, List.set_cons_zero]
              refine Lim.stepR 4 (fun _ => trivial) rfl (by kernel_rfl) (fun _ _ _ _ h => h) hC rfl ?_; apply Exists.intro; refine ⟨?_, ?_⟩
              · rintro w ⟨r1, r2, r3, r4⟩; go_simp; try with_reducible rfl
              simp only [Act.put, List.setIfInBounds_toArray, List.set_cons_succ, List.set_cons_zero]
              refine Lim.stepR 5 (fun _ => trivial) rfl (by kernel_rfl) (fun _ _ _ _ h => h) hC rfl ?_; apply Exists.intro; refine ⟨?_, ?_⟩
              · rintro w ⟨r1, r2, r3, r4⟩; go_simp; try with_reducible rfl
              simp only [Act.put, List.setIfInBounds_toArray, List.set_cons_succ, List.set_cons_zero]
              refine Lim.stepR 6 (fun _ => trivial) rfl (by kernel_rfl) (fun _ _ _ _ h => h) hC rfl ?_; apply Exists.intro; refine ⟨?_, ?_⟩
              · rintro w ⟨r1, r2, r3, r4⟩; go_simp; try with_reducible rfl
              simp only [Act.put, List.setIfInBounds_toArray, List.set_cons_succ, List.set_cons_zero]
              refine Lim.stepR 7 (fun _ => trivial) rfl (by kernel_rfl) (fun _ _ _ _ h => h) hC rfl ?_; apply Exists.intro; refine ⟨?_, ?_⟩
              · rintro w ⟨r1, r2, r3, r4⟩; go_simp; try with_reducible rfl
              simp only [Act.put, List.setIfInBounds_toArray, List.set_cons_succ, List.set_cons_zero]
              refine Lim.stepR 8 (fun _ => trivial) rfl (by kernel_rfl) (fun _ _ _ _ h => h) hC rfl ?_; apply Exists.intro; refine ⟨?_, ?_⟩
              · rintro w ⟨r1, r2, r3, r4⟩; go_simp; try with_reducible rfl
              simp only [Act.put, List.setIfInBounds_toArray, List.set_cons_succ, List.set_cons_zero]
              refine Lim.stepR 9 (fun _ => trivial) rfl (by kernel_rfl) (fun _ _ _ _ h => h) hC rfl ?_; apply Exists.intro; refine ⟨?_, ?_⟩
              · rintro w ⟨r1, r2, r3, r4⟩; go_simp; try with_reducible rfl
              simp only [Act.put, List.setIfInBounds_toArray, List.set_cons_succ, List.set_cons_zero]
              refine Lim.stepD (by kernel_rfl) ?_
              have d4 := h2.out.c4
              have d5 := h2.out.c5
              have e4 := h2.out.f4
              have e5 := h2.out.f5
              have hne : q + 1 + 1 ≠ q + 1 + 1 + 1 := by omega
              have HO := Lib.hid ((h2.out.grow (Below.refl _ W4).drew).out 0 9)
              have HL4 := Lib.hid (((h3.out.keeps (KeepsOthers.drew W4)).keeps (KeepsOthers.setCell W4.drew ⟨q + 1 + 1, 0, none⟩ (.int .i64 0))).keeps (KeepsOthers.setCell (W4.drew.setCell ⟨q + 1 + 1, 0, none⟩ (.int .i64 0)) ⟨q + 1 + 1 + 1, 0, none⟩ (.int .i64 9)))
              have HK4 := Lib.hid ((((KeepsOthers.drew W4).trans (KeepsOthers.setCell W4.drew ⟨q + 1 + 1, 0, none⟩ (.int .i64 0))).trans (KeepsOthers.setCell (W4.drew.setCell ⟨q + 1 + 1, 0, none⟩ (.int .i64 0)) ⟨q + 1 + 1 + 1, 0, none⟩ (.int .i64 9))).from W3.heap.size)
              clear hC hgt h5 h4 d3 cj ci
              gi_wp2_with fail
              exact ⟨HK4.out, rfl, HX, HO, HL4⟩
            · have g5 : decide (vi + 1 < vj) = false := decide_eq_false hgt
              have HX : Hid (∀ y : Nat, (y : Int) ∈ pre ++ [(j : Int)] → l.getD y 0 ≤ l.getD i 0 + 1) := Lib.hid (fun y hy => by
                rcases List.mem_append.1 hy with hy | hy
                · exact h1.out y hy
                · obtain rfl : y = j := by have : (y : Int) = j := by simpa using hy
                                           omega
                  rw [← HV.out.1, ← HV.out.2]; omega)
              refine Lim.regC (fun w => w.cell? ⟨q + 1, 0, none⟩ = some (.slice (some ⟨vb, vo, none⟩) m vc) ∧ w.cell? ⟨q7, 0, none⟩ = some (.int .i64 i) ∧ w.cell? ⟨vb, vo + j, none⟩ = some (.int .i64 vj) ∧ w.cell? ⟨vb, vo + i, none⟩ = some (.int .i64 vi)) [] #[false, false, false, false, false, false, false, false, false, false] (by kernel_rfl) rfl ?_
              refine Lim.stepR 0 (fun _ => trivial) rfl (by kernel_rfl) (fun _ _ _ _ h => h) hC rfl ?_; apply Exists.intro; refine ⟨?_, ?_⟩
              · rintro w ⟨r1, r2, r3, r4⟩; go_simp; try with_reducible rfl
              simp only [Act.put, List.setIfInBounds_toArray, List.set_cons_succ, List.set_cons_zero]
              refine Lim.stepR 1 (fun _ => trivial) rfl (by kernel_rfl) (fun _ _ _ _ h => h) hC rfl ?_; apply Exists.intro; refine ⟨?_, ?_⟩
              · rintro w ⟨r1, r2, r3, r4⟩; go_simp; try with_reducible rfl
              simp only [Act.put, List.setIfInBounds_toArray, List.set_cons_succ, List.set_cons_zero]
              refine Lim.stepR 2 (fun _ => trivial) rfl (by kernel_rfl) (fun _ _ _ _ h => h) hC rfl ?_; apply Exists.intro; refine ⟨?_, ?_⟩
              · rintro w ⟨r1, r2, r3, r4⟩; go_simp; try with_reducible rfl
              simp only [Act.put, List.setIfInBounds_toArray, List.set_cons_succ, List.set_cons_zero]
              refine Lim.stepR 3 (fun _ => trivial) rfl (by kernel_rfl) (fun _ _ _ _ h => h) hC rfl ?_; apply Exists.intro; refine ⟨?_, ?_⟩
              · rintro w ⟨r1, r2, r3, r4⟩; go_simp; try with_reducible rfl
              simp only [Act.put, List.setIfInBounds_toArray, List.set_cons_succ, List.set_cons_zero]
              refine Lim.stepR 4 (fun _ => trivial) rfl (by kernel_rfl) (fun _ _ _ _ h => h) hC rfl ?_; apply Exists.intro; refine ⟨?_, ?_⟩
              · rintro w ⟨r1, r2, r3, r4⟩; go_simp; try with_reducible rfl
              simp only [Act.put, List.setIfInBounds_toArray, List.set_cons_succ, List.set_cons_zero]
              refine Lim.stepR 5 (fun _ => trivial) rfl (by kernel_rfl) (fun _ _ _ _ h => h) hC rfl ?_; apply Exists.intro; refine ⟨?_, ?_⟩
              · rintro w ⟨r1, r2, r3, r4⟩; go_simp; try with_reducible rfl
              simp only [Act.put, List.setIfInBounds_toArray, List.set_cons_succ, List.set_cons_zero]
              refine Lim.stepR 6 (fun _ => trivial) rfl (by kernel_rfl) (fun _ _ _ _ h => h) hC rfl ?_; apply Exists.intro; refine ⟨?_, ?_⟩
              · rintro w ⟨r1, r2, r3, r4⟩; go_simp; try with_reducible rfl
              simp only [Act.put, List.setIfInBounds_toArray, List.set_cons_succ, List.set_cons_zero]
              refine Lim.stepR 7 (fun _ => trivial) rfl (by kernel_rfl) (fun _ _ _ _ h => h) hC rfl ?_; apply Exists.intro; refine ⟨?_, ?_⟩
              · rintro w ⟨r1, r2, r3, r4⟩; go_simp; try with_reducible rfl
              simp only [Act.put, List.setIfInBounds_toArray, List.set_cons_succ, List.set_cons_zero]
              refine Lim.stepR 8 (fun _ => trivial) rfl (by kernel_rfl) (fun _ _ _ _ h => h) hC rfl ?_; apply Exists.intro; refine ⟨?_, ?_⟩
              · rintro w ⟨r1, r2, r3, r4⟩; go_simp; try with_reducible rfl
              simp only [Act.put, List.setIfInBounds_toArray, List.set_cons_succ, List.set_cons_zero]
              refine Lim.stepR 9 (fun _ => trivial) rfl (by kernel_rfl) (fun _ _ _ _ h => h) hC rfl ?_; apply Exists.intro; refine ⟨?_, ?_⟩
              · rintro w ⟨r1, r2, r3, r4⟩; go_simp; try with_reducible rfl
              simp only [Act.put, List.setIfInBounds_toArray, List.set_cons_succ, List.set_cons_zero]
              refine Lim.stepD (by kernel_rfl) ?_
              clear hC hgt
              gi_wp2_with fail
              exact ⟨(KeepsOthers.drew W4).from _, HX, Lib.hid (h2.out.grow (Below.refl _ W4).drew), Lib.hid (h3.out.keeps (KeepsOthers.drew W4)), h4, h5⟩
        · obtain rfl : i = m := by have := hI.out.2.2.1; omega
          have g1 : decide ((i : Int) < i) = false := by simp
          have d3 := hI.out.1.k3
          obtain ⟨z, hz⟩ : ∃ z, z = i - 1 := ⟨_, rfl⟩
          have hwz : IntKind.i64.wrap ((i : Int) - 1) = (z : Int) := by rw [IntWalk.i64_in _ (by omega)]; omega
          have hzi : z < i := by omega
          have cj := hvc.out W hI.out.1.be z hzi
          have ci := hvc.out W hI.out.1.be 0 (by omega)
          obtain ⟨vj, hvj⟩ : ∃ v, v = l.getD z 0 := ⟨_, rfl⟩
          obtain ⟨vi, hvi⟩ : ∃ v, v = l.getD 0 0 := ⟨_, rfl⟩
          have bd : ∀ k, k < i → 0 ≤ l.getD k 0 ∧ l.getD k 0 ≤ 40 := fun k hk => by
            have h6 := (List.all_eq_true.1 HI.out) (l[k]'(by have := HML.out; omega)) (List.getElem_mem _)
            have h7 := inR_iff.1 h6
            rw [List.getD_eq_getElem?_getD, List.getElem?_eq_getElem (by have := HML.out; omega)]
            exact h7
          have tj := bd z hzi
          have ti := bd 0 (by omega)
          have HV : Hid (vj = l.getD (p.n - 1) 0 ∧ vi = l.getD 0 0) := Lib.hid ⟨by rw [hvj, hz, HN.out], hvi⟩
          rw [← hvj] at cj tj
          rw [← hvi] at ci ti
          rw [Nat.add_zero] at ci
          obtain ⟨r, hr⟩ : ∃ r, r = vj - vi + 1 := ⟨_, rfl⟩
          obtain ⟨r1, hr1⟩ : ∃ r, r = vj - vi := ⟨_, rfl⟩
          have hw1 : IntKind.i64.wrap (vj - vi) = r1 := by rw [hr1]; exact IntWalk.i64_in _ (by omega)
          have hw2 : IntKind.i64.wrap (r1 + 1) = r := by rw [hr, hr1]; exact IntWalk.i64_in _ (by omega)
          have HRR := Lib.hid hr
          have hM := Lib.hid (hI.out.1.grow (Below.refl _ W).drew)
          have HO := Lib.hid (hM.out.out r 0)
          have hmd := hm.keep (((KeepsOthers.drew W).trans (KeepsOthers.setCell W.drew ⟨q + 1 + 1, 0, none⟩ (.int .i64 r))).trans (KeepsOthers.setCell (W.drew.setCell ⟨q + 1 + 1, 0, none⟩ (.int .i64 r)) ⟨q + 1 + 1 + 1, 0, none⟩ (.int .i64 0)))
          clear hz hvj hvi bd tj ti hr hr1 hm
          have hvq : Hid (vb < q + 1) := Lib.hid (by
            obtain ⟨a2, c2, e2, h2⟩ := HXS.out.1
            cases e2
            obtain ⟨vb', vo', e3, h3, h4⟩ := h2 (ints_ne (by have := HML.out; omega))
            cases e3
            have := HR.out.1
            have := HQ.out
            omega)
          have e4 := hI.out.1.f4
          have e5 := hI.out.1.f5
          have d4 := hI.out.1.c4
          have d5 := hI.out.1.c5
          have hne : q + 1 + 1 ≠ q + 1 + 1 + 1 := by omega
          go_wp2_with fail
          have hpos : 0 < i := by omega
          have hC : (fun w => w.cell? ⟨q + 1, 0, none⟩ = some (.slice (some ⟨vb, vo, none⟩) i vc) ∧ w.cell? ⟨vb, vo + z, none⟩ = some (.int .i64 vj) ∧ w.cell? ⟨vb, vo, none⟩ = some (.int .i64 vi)) W.drew := ⟨d3, cj, ci⟩
          have hC2 : (fun w => w.cell? ⟨q + 1, 0, none⟩ = some (.slice (some ⟨vb, vo, none⟩) i vc) ∧ w.cell? ⟨vb, vo + z, none⟩ = some (.int .i64 vj) ∧ w.cell? ⟨vb, vo, none⟩ = some (.int .i64 vi)) (W.drew.setCell ⟨q + 1 + 1, 0, none⟩ (.int .i64 r)) := ⟨by rw [setCell_farP _ _ (by omega)]; exact d3, by rw [setCell_farP _ _ (by have := hvq.out; omega)]; exact cj, by rw [setCell_farP _ _ (by have := hvq.out; omega)]; exact ci⟩
          have hC3 : (fun w => w.cell? ⟨q + 1, 0, none⟩ = some (.slice (some ⟨vb, vo, none⟩) i vc) ∧ w.cell? ⟨vb, vo + z, none⟩ = some (.int .i64 vj) ∧ w.cell? ⟨vb, vo, none⟩ = some (.int .i64 vi)) ((W.drew.setCell ⟨q + 1 + 1, 0, none⟩ (.int .i64 r)).setCell ⟨q + 1 + 1 + 1, 0, none⟩ (.int .i64 0)) := by
            obtain ⟨x1, x2, x3⟩ := hC2
            exact ⟨by rw [setCell_farP _ _ (by omega)]; exact x1, by rw [setCell_farP _ _ (by have := hvq.out; omega)]; exact x2, by rw [setCell_farP _ _ (by have := hvq.out; omega)]; exact x3⟩
          refine Lim.regC' (fun w => w.cell? ⟨q + 1, 0, none⟩ = some (.slice (some ⟨vb, vo, none⟩) i vc) ∧ w.cell? ⟨vb, vo + z, none⟩ = some (.int .i64 vj) ∧ w.cell? ⟨vb, vo, none⟩ = some (.int .i64 vi)) [] #[false, false, false, false, false, false, false, false, false, false, false, false, false] (by kernel_rfl) rfl ?_
          refine Lim.stepR 0 (fun _ => trivial) rfl (by kernel_rfl) (fun _ _ _ _ h => h) hC rfl ?_; apply Exists.intro; refine ⟨?_, ?_⟩
          · rintro w ⟨s1, s2, s3⟩; go_simp; try with_reducible rfl
          simp only [Act.put, List.setIfInBounds_toArray, List.set_cons_succ, List.set_cons_zero]
          refine Lim.stepR 1 (fun _ => trivial) rfl (by kernel_rfl) (fun _ _ _ _ h => h) hC rfl ?_; apply Exists.intro; refine ⟨?_, ?_⟩
          · rintro w ⟨s1, s2, s3⟩; go_simp; try with_reducible rfl
          simp only [Act.put, List.setIfInBounds_toArray, List.set_cons_succ, List.set_cons_zero]
          refine Lim.stepR 2 (fun _ => trivial) rfl (by kernel_rfl) (fun _ _ _ _ h => h) hC rfl ?_; apply Exists.intro; refine ⟨?_, ?_⟩
          · rintro w ⟨s1, s2, s3⟩; go_simp; try with_reducible rfl
          simp only [Act.put, List.setIfInBounds_toArray, List.set_cons_succ, List.set_cons_zero]
          refine Lim.stepR 3 (fun _ => trivial) rfl (by kernel_rfl) (fun _ _ _ _ h => h) hC rfl ?_; apply Exists.intro; refine ⟨?_, ?_⟩
          · rintro w ⟨s1, s2, s3⟩; go_simp; try with_reducible rfl
          simp only [Act.put, List.setIfInBounds_toArray, List.set_cons_succ, List.set_cons_zero]
          refine Lim.stepR 4 (fun _ => trivial) rfl (by kernel_rfl) (fun _ _ _ _ h => h) hC rfl ?_; apply Exists.intro; refine ⟨?_, ?_⟩
          · rintro w ⟨s1, s2, s3⟩; go_simp; try with_reducible rfl
          simp only [Act.put, List.setIfInBounds_toArray, List.set_cons_succ, List.set_cons_zero]
          refine Lim.stepR 5 (fun _ => trivial) rfl (by kernel_rfl) (fun _ _ _ _ h => h) hC rfl ?_; apply Exists.intro; refine ⟨?_, ?_⟩
          · rintro w ⟨s1, s2, s3⟩; go_simp; try with_reducible rfl
          simp only [Act.put, List.setIfInBounds_toArray, List.set_cons_succ, List.set_cons_zero]
          refine Lim.stepR 6 (fun _ => trivial) rfl (by kernel_rfl) (fun _ _ _ _ h => h) hC rfl ?_; apply Exists.intro; refine ⟨?_, ?_⟩
          · rintro w ⟨s1, s2, s3⟩; go_simp; try with_reducible rfl
          simp only [Act.put, List.setIfInBounds_toArray, List.set_cons_succ, List.set_cons_zero]
          refine Lim.stepR 7 (fun _ => trivial) rfl (by kernel_rfl) (fun _ _ _ _ h => h) hC rfl ?_; apply Exists.intro; refine ⟨?_, ?_⟩
          · rintro w ⟨s1, s2, s3⟩; go_simp; try with_reducible rfl
          simp only [Act.put, List.setIfInBounds_toArray, List.set_cons_succ, List.set_cons_zero]
          refine Lim.stepR 8 (fun _ => trivial) rfl (by kernel_rfl) (fun _ _ _ _ h => h) hC rfl ?_; apply Exists.intro; refine ⟨?_, ?_⟩
          · rintro w ⟨s1, s2, s3⟩; go_simp; try with_reducible rfl
          simp only [Act.put, List.setIfInBounds_toArray, List.set_cons_succ, List.set_cons_zero]
          refine Lim.stepR 9 (fun _ => trivial) rfl (by kernel_rfl) (fun _ _ _ _ h => h) hC rfl ?_; apply Exists.intro; refine ⟨?_, ?_⟩
          · rintro w ⟨s1, s2, s3⟩; go_simp; try with_reducible rfl
          simp only [Act.put, List.setIfInBounds_toArray, List.set_cons_succ, List.set_cons_zero]
          refine Lim.stepR 10 (fun _ => trivial) rfl (by kernel_rfl) (fun _ _ _ _ h => h) hC rfl ?_; apply Exists.intro; refine ⟨?_, ?_⟩
          · rintro w ⟨s1, s2, s3⟩; go_simp; try with_reducible rfl
          simp only [Act.put, List.setIfInBounds_toArray, List.set_cons_succ, List.set_cons_zero]
          refine Lim.stepE 11 (fun _ => trivial) rfl (by kernel_rfl) rfl (fun K hK => ?_)   -- E store
          go_simp
          refine hK _ _ hC2 ?_
          simp only [Act.put, List.setIfInBounds_toArray, List.set_cons_succ, List.set_cons_zero]
          refine Lim.stepE 12 (fun _ => trivial) rfl (by kernel_rfl) rfl (fun K hK => ?_)   -- E store
          go_simp
          refine hK _ _ hC3 ?_
          simp only [Act.put, List.setIfInBounds_toArray, List.set_cons_succ, List.set_cons_zero]
          refine Lim.stepD (by kernel_rfl) ?_
          clear hC hC2 hC3
          go_wp2
          refine leaves_marks (B := w.heap.size) _ hmd (fun w' hs => ⟨.tuple #[.int .i64 r, .int .i64 0], ?_, HO.out.1.steady hs (Nat.le_refl _) HO.out.1.size, r, 0, rfl, .inr (.inr (.inr (.inr ⟨HE0.out.1, by rw [← HN.out]; exact HML.out.symm, HI.out, ?_, by rw [HRR.out, HV.out.1, HV.out.2], rfl⟩)))⟩)
          · have h4 := hs.cell HO.out.2.1
            have h5 := hs.cell HO.out.2.2
            simp [results, Try.f29, go_sem, h4, h5]
          · intro x' y hxy hy hsu
            refine hI.out.2.2.2 x' (by have := HN.out; omega) y hxy (by rw [HN.out]; exact hy) ?_
            rw [HS.out, suTo_sure p hxy hy]; exact hsu
    · have d2 : ((m : Int) != (n : Int)) = true := by rw [bne_iff_ne]; omega
      have HMN := Lib.hid hmn
      clear hmn
      go_wp2
      refine leaves_marks (B := w.heap.size) _ (Marks.nil _ _) (fun w' hs => ⟨.tuple #[.int .i64 0, .int .i64 2], ?_, (HOUT.out 0 2).1.steady hs (Nat.le_refl _) (HOUT.out 0 2).1.size, 0, 2, rfl, .inr (.inl ⟨HE0.out.1, by rw [← HN.out, ← HML.out]; exact HMN.out, rfl, rfl⟩)⟩)
      have h4 := hs.cell (HOUT.out 0 2).2.1
      have h5 := hs.cell (HOUT.out 0 2).2.2
      simp [results, Try.f29, go_sem, h4, h5]
end Go.Proofs.Ytohjinbgbfggcaa
