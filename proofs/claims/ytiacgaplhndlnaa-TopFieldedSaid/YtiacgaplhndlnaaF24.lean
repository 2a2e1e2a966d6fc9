/-
  Parts of the proof, in the order in which they build: EzA.
-/
import Derived.Laws.AppendOwn
import Derived.Deep.CutRange
import Derived.Test.YtiacgaplhndlnaaF20
import Derived.Test.YtiacgaplhndlnaaF23
set_option linter.unusedVariables false
set_option linter.unusedSimpArgs false
namespace Go.Proofs.Ytiacgaplhndlnaa
open Go.RowKit Go.Shelf
open Lim

attribute [local go_sem] Oper.semAt_some

theorem owns_sep {T : Nat → Prop} {W W' : World} {base e size : Nat} {v : Value} {n : Nat} {xs : List Value} (h : W.ownsRow base e size v n xs) (hs : Sep T W W') (hT : ∀ k, T k → k < base) : W'.ownsRow base e size v n xs := by
  refine ⟨h.1, ?_⟩
  rcases h.2 with hn | ⟨g, cap, cur, hv, hb, hg, r⟩
  · exact .inl hn
  · exact .inr ⟨g, cap, cur, hv, hb, hs.heap hg (fun ht => by have := hT g ht; omega), r⟩
theorem two_cells {W : World} {q : Nat} {a b : Value} {t : TypeId} (h : W.heap[q]? = some (.cells #[a, b] t (0, 0))) : (W.cell? ⟨q, 0, none⟩ = some a ∧ W.cell? ⟨q, 1, none⟩ = some b) ∧ W.frozen? ⟨q, 0, none⟩ = false ∧ W.frozen? ⟨q, 1, none⟩ = false := by
  refine ⟨⟨?_, ?_⟩, ?_, ?_⟩ <;> simp [World.cell?, World.frozen?, h]
theorem Deck.row {W W' : World} {d n : Nat} {row : Option Nat} (h : Deck W d n) (hg : W.grownBy W' row) (hr : ∀ r, row = some r → d < r) : Deck W' d n := by
  obtain ⟨cv, l, k, s, h, hk⟩ := h
  have hd : d < W.heap.size := World.block_lt_of_cell? _ _ h.c.1
  have he : W'.heap[d]? = W.heap[d]? := hg.block d hd (fun e => by have := hr d e.symm; omega)
  have hb : Below d W W' := ⟨hg.os, hg.tape, hg.output, hg.size, fun k hk => hg.block k (by omega) (fun e => by have := hr k e.symm; omega)⟩
  exact ⟨cv, l, k, s, ⟨⟨(World.cell?_of_block he).trans h.c.1, (World.cell?_of_block he).trans h.c.2.1, (World.cell?_of_block he).trans h.c.2.2⟩, ⟨(World.frozen?_of_block he).trans h.f.1, (World.frozen?_of_block he).trans h.f.2⟩, h.r.below hb, h.u, h.k0, h.s0⟩, hk⟩
theorem grown_of {W W' : World} (hb : Below W.heap.size W W') : W.grownBy W' none := ⟨hb.os, hb.tape, hb.output, hb.size, fun k hk _ => hb.block k hk⟩
theorem Deck.lt {W : World} {d n : Nat} (h : Deck W d n) : d < W.heap.size := by
  obtain ⟨cv, l, k, s, h, -⟩ := h
  exact World.block_lt_of_cell? _ _ h.c.1
/-- Made's memory: its result at q6, the map at q7, the ring rv, the owners v -/
structure MdE (W0 : World) (d c q6 q7 : Nat) (wd : Int) (B1 : Nat) (rv : Value) (R : List Int) (v : Value) (os : List Int) (W : World) : Prop where
  sep : Sep (fun x => x = d) W0 W
  deck : Deck W d c
  b6 : W.heap[q6]? = some (.cells #[.int .i64 0, .slice none 0 0] 25 (0, 0))
  b7 : W.heap[q7]? = some (.cells #[.int .i64 wd, v] 25 (0, 0))
  lt : d < W0.heap.size ∧ W0.heap.size ≤ q6 ∧ q6 < q7 ∧ q7 < B1 ∧ B1 ≤ W.heap.size
  ring : W.ownsRow (q7 + 1) 3 1 rv R.length (ints R)
  rlt : ∀ r, rv.ownBlock = some r → r < B1
  row : W.ownsRow B1 3 1 v os.length (ints os)
section
variable {W0 W W' : World} {d c q6 q7 : Nat} {wd : Int} {B1 : Nat} {rv : Value} {R : List Int} {v : Value} {os : List Int}
theorem MdE.calm (h : MdE W0 d c q6 q7 wd B1 rv R v os W) (hg : W.grownBy W' none) : MdE W0 d c q6 q7 wd B1 rv R v os W' := by
  have s := Sep.of_grown hg
  exact ⟨h.sep.from s (fun k _ e => by cases e), h.deck.row hg (fun r e => by cases e), s.heap h.b6 (fun e => by cases e), s.heap h.b7 (fun e => by cases e), ⟨h.lt.1, h.lt.2.1, h.lt.2.2.1, h.lt.2.2.2.1, Nat.le_trans h.lt.2.2.2.2 s.size⟩, owns_sep h.ring s (fun k e => by cases e), h.rlt, owns_sep h.row s (fun k e => by cases e)⟩
theorem MdE.dealt (h : MdE W0 d c q6 q7 wd B1 rv R v os W) (hd : Dealt d c W W') : MdE W0 d (c + 1) q6 q7 wd B1 rv R v os W' := by
  have s := Sep.of_grown hd.2.1
  have hl := h.lt
  exact ⟨h.sep.from s (fun k _ e => by cases e; rfl), hd.1, s.heap h.b6 (fun e => by cases e; omega), s.heap h.b7 (fun e => by cases e; omega), ⟨hl.1, hl.2.1, hl.2.2.1, hl.2.2.2.1, Nat.le_trans hl.2.2.2.2 s.size⟩, owns_sep h.ring s (fun k e => by cases e; omega), h.rlt, owns_sep h.row s (fun k e => by cases e; omega)⟩
theorem MdE.ringApp (h : MdE W0 d c q6 q7 wd B1 rv R (.slice none 0 0) [] W) {rv' : Value} {R' : List Int} (hg : W.grownBy W' rv.ownBlock) (ho : W'.ownsRow (q7 + 1) 3 1 rv' R'.length (ints R')) : MdE W0 d c q6 q7 wd W'.heap.size rv' R' (.slice none 0 0) [] W' := by
  have s := Sep.of_grown hg
  have hl := h.lt
  have hb : ∀ k, rv.ownBlock = some k → q7 + 1 ≤ k := fun k e => (h.ring.lt k e).1
  exact ⟨h.sep.from s (fun k hk e => by have := hb k e; omega), h.deck.row hg (fun r e => by have := hb r e; omega), s.heap h.b6 (fun e => by have := hb _ e; omega), s.heap h.b7 (fun e => by have := hb _ e; omega), ⟨hl.1, hl.2.1, hl.2.2.1, by have := s.size; omega, Nat.le_refl _⟩, ho, fun r e => (ho.lt r e).2, World.ownsRow_nil _ _ _ _⟩
theorem MdE.app (h : MdE W0 d c q6 q7 wd B1 rv R v os W) {v' : Value} {os' : List Int} (hg : W.grownBy W' v.ownBlock) (ho : W'.ownsRow B1 3 1 v' os'.length (ints os')) : MdE W0 d c q6 q7 wd B1 rv R v' os' (W'.setCell ⟨q7, 1, none⟩ v') := by
  have s := Sep.of_grown hg
  have hl := h.lt
  have hb : ∀ k, v.ownBlock = some k → B1 ≤ k := fun k e => (h.row.lt k e).1
  have s2 : Sep (fun k => k = q7) W' (W'.setCell ⟨q7, 1, none⟩ v') := Sep.set W' q7 1 v'
  have hr : W'.ownsRow (q7 + 1) 3 1 rv R.length (ints R) := by
    rcases h.ring.2 with h0 | ⟨g, cap, cur, e, h1, h2, h3⟩
    · exact ⟨h.ring.1, .inl h0⟩
    · exact ⟨h.ring.1, .inr ⟨g, cap, cur, e, h1, s.heap h2 (fun e2 => by have := hb _ e2; have := h.rlt g (by rw [e]; rfl); omega), h3⟩⟩
  refine ⟨(h.sep.from s (fun k hk e => by have := hb k e; omega)).from s2 (fun k hk e => by omega), ?_, s2.heap (s.heap h.b6 (fun e => by have := hb _ e; omega)) (by omega), ?_, ⟨hl.1, hl.2.1, hl.2.2.1, hl.2.2.2.1, Nat.le_trans (Nat.le_trans hl.2.2.2.2 s.size) s2.size⟩, owns_sep hr s2 (fun k e => by omega), h.rlt, owns_sep ho s2 (fun k e => by omega)⟩
  · have h1 := h.deck.row hg (fun r e => by have := hb r e; omega)
    exact h1.row (row := some q7) ⟨s2.os, s2.tape, s2.output, s2.size, fun k hk hne => s2.same k hk (fun e => hne (by rw [e]))⟩ (fun r e => by cases e; omega)
  · have h1 := s.heap h.b7 (fun e => by have := hb _ e; omega)
    rw [heap_setCell_self _ h1]; rfl
end
theorem run_min4 {P : Program} (w : World) (ts : Array TypeId) (t : TypeId) (x y z u : Int) : (Builtin.min_ ts t #[.int .i64 x, .int .i64 y, .int .i64 z, .int .i64 u]).run P w = .ok (.int .i64 (min (min (min x y) z) u)) w := by
  have e : ∀ a b : Int, (if b < a then b else a) = min a b := fun a b => by rw [Int.min_def]; split <;> split <;> omega
  simp [Builtin.min_, Builtin.min2, e]
/-- what Made answers: a map of the size asked, of states from 0 to 3; only the deck is changed -/
def MadeAnsE (C R : Nat) (d c : Nat) (w : World) (e : Ending) (w' : World) : Prop :=
  ∃ (wd hi : Nat) (v : Value) (os : List Int), e = .returned (.agg #[.int .i64 wd, v]) ∧ 1 ≤ wd ∧ wd ≤ C ∧ 1 ≤ hi ∧ hi ≤ R ∧ os.length = wd * hi ∧ (∀ o ∈ os, 0 ≤ o ∧ o ≤ 3) ∧ w'.ownsRow w.heap.size 3 1 v os.length (ints os) ∧ Sep (fun x => x = d) w w'
set_option maxRecDepth 20000 in
set_option maxHeartbeats 8000000 in
theorem made_any {C R d c : Nat} {w : World} (hC : 1 ≤ C ∧ C ≤ 10) (hR : 1 ≤ R ∧ R ≤ 10) (hd : Deck w d c) (hc : c < 1000) :
    Calls Try.prog 7 #[.pointer (some ⟨d, 0, none⟩), .int .i64 C, .int .i64 R] w fun e w' => MadeAnsE C R d c w e w' := by
  obtain ⟨i0, hi, hz0, hz1, hz2⟩ := info_parts Try.infoInt
  have HF := Lib.hid (And.intro hi (And.intro hz0 (And.intro hz1 hz2)))
  have HA : Hid (w.grownBy (w.alloc (.cells #[.int .i64 0, .slice none 0 0] 25)) none ∧ (w.alloc (.cells #[.int .i64 0, .slice none 0 0] 25)).heap[w.heap.size]? = some (.cells #[.int .i64 0, .slice none 0 0] 25 (0, 0)) ∧ (w.alloc (.cells #[.int .i64 0, .slice none 0 0] 25)).heap.size = w.heap.size + 1) := Lib.hid ⟨grown_of ((Below.refl _ w).alloc (Nat.le_refl _) _), heap_alloc_new _ _, by simp⟩
  have CB1 := Lib.hid (deck_between (a := 1) (b := C) (hd.row HA.out.1 (fun r e => by cases e)) (by omega) (by omega) (by omega) (by omega))
  have HDC := Lib.hid (And.intro hd.lt hc)
  clear hi hz0 hz1 hz2 hd hc
  go_enter Try.func7, Try.ntmps7
  refine wp_noPanic ?_
  go_wp2_with fail
  generalize w.alloc (.cells #[.int .i64 0, .slice none 0 0] 25) = w1 at HA CB1 ⊢
  refine CB1.out.mono ?_
  rintro e w2 ⟨wd, rfl, hwd, hdl⟩
  have HD2 := Lib.hid hdl
  clear hdl CB1
  go_upto_region 2 with (fail)
  have HW3 : Hid (MdE w d (c + 1) w.heap.size w2.heap.size wd (w2.alloc (.cells #[.int .i64 wd, .slice none 0 0] 25)).heap.size (.slice none 0 0) [] (.slice none 0 0) [] (w2.alloc (.cells #[.int .i64 wd, .slice none 0 0] 25))) := Lib.hid (by
    have g1 := Sep.of_grown HA.out.1
    have g2 := Sep.of_grown HD2.out.2.1
    have g3 : w2.grownBy (w2.alloc (.cells #[.int .i64 wd, .slice none 0 0] 25)) none := grown_of ((Below.refl _ w2).alloc (Nat.le_refl _) _)
    have s3 := Sep.of_grown g3
    have hz := HD2.out.2.2
    have ha := HA.out.2.2
    have hdl := HDC.out.1
    exact ⟨((g1.mono (fun k e => by cases e)).from g2 (fun k _ e => by cases e; rfl)).from s3 (fun k _ e => by cases e), HD2.out.1.row g3 (fun r e => by cases e), s3.heap (g2.heap HA.out.2.1 (fun e => by cases e; omega)) (fun e => by cases e), heap_alloc_new _ _, ⟨hdl, Nat.le_refl _, by omega, by simp, Nat.le_refl _⟩, World.ownsRow_nil _ _ _ _, fun r e => (by cases e), World.ownsRow_nil _ _ _ _⟩)
  clear HA HD2
  obtain ⟨q6, hq6⟩ : ∃ q, q = w.heap.size := ⟨_, rfl⟩
  obtain ⟨q7, hq7⟩ : ∃ q, q = w2.heap.size := ⟨_, rfl⟩
  rw [← hq6, ← hq7] at HW3 ⊢
  have HQ6 := Lib.hid hq6
  generalize w2.alloc (.cells #[.int .i64 wd, .slice none 0 0] 25) = w3 at HW3 ⊢
  obtain ⟨B0, hB0⟩ : ∃ B, B = w3.heap.size := ⟨_, rfl⟩
  rw [← hB0] at HW3
  clear hB0 hq6 hq7 w2 w1
  have CB2 := Lib.hid (deck_between (a := 1) (b := R) HW3.out.deck (by have := HDC.out.2; omega) (by omega) (by omega) (by omega))
  go_wp2_with fail
  refine CB2.out.mono ?_
  rintro e w4 ⟨hi, rfl, hhi, hdl⟩
  have HW4 := Lib.hid (HW3.out.dealt hdl)
  clear HW3 CB2 hdl w3
  have CB3 := Lib.hid (deck_between (a := 2) (b := 4) HW4.out.deck (by have := HDC.out.2; omega) (by omega) (by omega) (by omega))
  go_wp2_with fail
  refine CB3.out.mono ?_
  rintro e w5 ⟨st, rfl, hst, hdl⟩
  have HW5 := Lib.hid (HW4.out.dealt hdl)
  clear HW4 CB3 hdl w4
  obtain ⟨wd, rfl⟩ : ∃ n : Nat, wd = n := ⟨wd.toNat, by omega⟩
  obtain ⟨hi, rfl⟩ : ∃ n : Nat, hi = n := ⟨hi.toNat, by omega⟩
  go_wp2_with fail
  go_loopw [10, 24] (fun rv iv W => ∃ t : Nat, t ≤ 10 ∧ iv = .int .i64 t ∧ ∃ R : List Int, Hid (R.length = t ∧ (∀ x ∈ R, 0 ≤ x ∧ x ≤ 3) ∧ ∃ B1, MdE w d (c + 3 + t) q6 q7 wd B1 rv R (.slice none 0 0) [] W)) (fun _ iv _ => 10 - (intOf iv).toNat)
  case atStart => exact ⟨0, Nat.zero_le _, rfl, [], Lib.hid ⟨rfl, (fun x hx => by cases hx), _, HW5.out⟩⟩
  case round =>
    clear HW5
    obtain ⟨t, ht, rfl, R1, hI⟩ := hrel
    obtain ⟨hlen, hR1, B1, hM⟩ := hI.out
    by_cases hlt : t < 10
    · have ht64 : (t : Int) < 10 := by omega
      have CD := Lib.hid (deck_draw (n := st) hM.deck (by have := HDC.out.2; omega))
      have HM := Lib.hid (And.intro hM (And.intro hR1 hlen))
      clear hI hM hR1 hlen
      go_wp2_with fail
      refine CD.out.mono ?_
      rintro e w7 ⟨x, rfl, hx, hdl⟩
      have hx3 : 0 ≤ x ∧ x ≤ 3 := ⟨hx.2.1, by have := hx.2.2 (by omega); omega⟩
      have HM7 := Lib.hid (HM.out.1.dealt hdl)
      have HOW := Lib.hid HM7.out.ring
      have HX := Lib.hid hx3
      have HL : Hid (R1.length ≤ 100) := Lib.hid (by have := HM.out.2.2; omega)
      clear hx hx3 hdl CD
      go_wp2_with (at_builtin; refine wpList_append_own _ rfl _ _ 23 rfl (q7 + 1) 3 i0 (.int .i64 0) 1 8 Try.underlying23 HF.out.1 HF.out.2.1 HF.out.2.2.1 HF.out.2.2.2 rfl (by decide) _ _ _ rfl (HOW.out.alloc _) ⟨w7.heap.size, 0, none⟩ 1 1 [.int .i64 x] rfl rfl (cell_one_new _ _ _) (by simp [Value.oneCell']) (by have := HL.out; unfold maxLen; omega) (by have := HL.out; omega) (by have := HM7.out.lt; simp; omega) ?_; intro v' w8 hown8 hgrow _; have HM8 := Lib.hid (And.intro hown8 hgrow); clear hown8 hgrow)
      have HM9 : Hid (MdE w d (c + 3 + t + 1) q6 q7 wd _ v' (R1 ++ [x]) (.slice none 0 0) [] w8) := Lib.hid ((HM7.out.calm (grown_of ((Below.refl _ w7).alloc (Nat.le_refl _) _))).ringApp HM8.out.2 (by have h := HM8.out.1; simpa [ints] using h))
      go_roundw
      case rel => exact ⟨t + 1, by omega, by go_num, R1 ++ [x], Lib.hid ⟨by rw [List.length_append, HM.out.2.2]; rfl, (fun y hy => by
        rcases List.mem_append.1 hy with h | h
        · exact HM.out.2.1 y h
        · rw [List.mem_singleton.1 h]; exact HX.out), _, HM9.out⟩⟩
      case measure => simp [intOf]; omega
    · obtain rfl : t = 10 := by omega
      simp only [show ((10 : Nat) : Int) = 10 from rfl]
      obtain ⟨hlen, hR1, B1, hM⟩ := hI.out
      obtain ⟨rb, rc, hrv, hrb, -⟩ := RowK.of_owns hM.ring (by omega)
      subst hrv
      obtain ⟨n, hn⟩ : ∃ n, n = wd * hi := ⟨_, rfl⟩
      have hn100 : n ≤ 100 := by rw [hn]; exact Nat.mul_le_mul (n₁ := wd) (n₂ := 10) (m₁ := hi) (m₂ := 10) (by omega) (by omega)
      have hmul : (wd : Int) * (hi : Int) = (n : Int) := by rw [hn]; exact (Int.natCast_mul wd hi).symm
      have hw1 : IntKind.i64.wrap ((wd : Int) * (hi : Int)) = (n : Int) := by rw [hmul]; exact IntWalk.i64_in _ (by omega)
      have HM0 : Hid (MdE w d (c + 3 + 10) q6 q7 wd B1 (.slice (some ⟨rb, 0, none⟩) R1.length rc) R1 (.slice none 0 0) [] wr) := Lib.hid hM
      have HR1 := Lib.hid (And.intro hlen hR1)
      have HN := Lib.hid hn
      obtain ⟨⟨c0, c1⟩, -, -⟩ := two_cells hM.b7
      rw [hlen]
      rw [hlen] at HM0
      have hwd10 : wd ≤ 10 := by omega
      have hhi10 : hi ≤ 10 := by omega
      have hwd1 : 1 ≤ wd := by omega
      have hhi1 : 1 ≤ hi := by omega
      have HH := Lib.hid (And.intro hwd (And.intro hhi hst))
      have hst4 : 2 ≤ st ∧ st ≤ 4 := hst
      clear hM hI hn hmul hlen hR1 hwd hhi hst hlt ht
      go_wp2_with fail
      clear hw1
      go_loopw [37] (fun iv W => ∃ t : Nat, t ≤ n ∧ iv = .int .i64 t ∧ ∃ (v : Value) (os : List Int) (c' : Nat), Hid (os.length = t ∧ (∀ x ∈ os, 0 ≤ x ∧ x ≤ 3) ∧ c' ≤ c + 13 + 2 * t ∧ MdE w d c' q6 q7 wd B1 (.slice (some ⟨rb, 0, none⟩) 10 rc) R1 v os W)) (fun iv _ => n - (intOf iv).toNat)
      case atStart => exact ⟨0, Nat.zero_le _, rfl, _, [], _, Lib.hid ⟨rfl, (fun x hx => by cases hx), Nat.le_refl _, HM0.out⟩⟩
      case round =>
        clear HM0 c0 c1
        obtain ⟨t, ht, rfl, v, os, c', hI⟩ := hrel
        obtain ⟨hlen, hos, hc', hM⟩ := hI.out
        obtain ⟨⟨c0, c1⟩, z2, z3⟩ := two_cells hM.b7
        by_cases hlt : t < n
        · have ht64 : (t : Int) < n := by omega
          obtain ⟨cx, hx⟩ : ∃ x, x = t % wd := ⟨_, rfl⟩
          obtain ⟨cy, hy⟩ : ∃ y, y = t / wd := ⟨_, rfl⟩
          have hxw : cx < wd := by rw [hx]; exact Nat.mod_lt _ (by omega)
          have hyh : cy < hi := by rw [hy]; exact Nat.div_lt_of_lt_mul (by rw [← HN.out]; exact hlt)
          have e5 : (t : Int).tmod (wd : Int) = (cx : Int) := by rw [hx]; exact (Int.ofNat_tmod t wd).symm
          have e6 : (t : Int).tdiv (wd : Int) = (cy : Int) := by rw [hy]; exact (Int.ofNat_tdiv t wd).symm
          have hwn : ¬ wd = 0 := by omega
          have e7 : IntKind.i64.wrap (cy : Int) = (cy : Int) := IntWalk.i64_in _ (by omega)
          have HC12 : (fun W => W.cell? ⟨q7, 0, none⟩ = some (.int .i64 wd)) wr.drew := c0
          have hz1 : IntKind.i64.wrap ((wd : Int) - 1) = (wd : Int) - 1 := IntWalk.i64_in _ (by omega)
          have hz2 : IntKind.i64.wrap ((wd : Int) - 1 - cx) = (wd : Int) - 1 - cx := IntWalk.i64_in _ (by omega)
          have hz3 : IntKind.i64.wrap ((hi : Int) - 1) = (hi : Int) - 1 := IntWalk.i64_in _ (by omega)
          have hz4 : IntKind.i64.wrap ((hi : Int) - 1 - cy) = (hi : Int) - 1 - cy := IntWalk.i64_in _ (by omega)
          obtain ⟨ix, hix⟩ : ∃ ix : Nat, min (min (min (cx : Int) cy) ((wd : Int) - 1 - cx)) ((hi : Int) - 1 - cy) = ix := ⟨(min (min (min (cx : Int) cy) ((wd : Int) - 1 - cx)) ((hi : Int) - 1 - cy)).toNat, by omega⟩
          have hixl : ix < 10 := by omega
          have hmin : ∀ (ts : Array TypeId) (ty : TypeId) (W : World), (Builtin.min_ ts ty #[.int .i64 (cx : Int), .int .i64 (cy : Int), .int .i64 ((wd : Int) - 1 - cx), .int .i64 ((hi : Int) - 1 - cy)]).run Try.prog W = .ok (.int .i64 (ix : Int)) W := fun ts ty W => by rw [run_min4, hix]
          have hMd := hM.calm (grown_of (Below.refl _ wr).drew)
          have HM := Lib.hid (And.intro hlen (And.intro hos (And.intro hc' hMd)))
          clear hI hlen hos hc' hM hMd hx hy hix c0 c1 z2 z3
          go_upto_region 12 with (fail)
          refine Lim.regC' (fun W => W.cell? ⟨q7, 0, none⟩ = some (.int .i64 wd)) [] #[false, false, false, false, false, false, false, false, false, false] (by kernel_rfl) rfl ?_
          refine Lim.stepR 0 (fun _ => trivial) rfl (by kernel_rfl) (fun _ _ _ _ h => h) HC12 rfl ?_; apply Exists.intro; refine ⟨?_, ?_⟩
          · rintro w r1; go_simp; try with_reducible rfl
          simp only [Act.put, List.setIfInBounds_toArray, List.set_cons_succ, List.set_cons_zero]
          refine Lim.stepR 1 (fun _ => trivial) rfl (by kernel_rfl) (fun _ _ _ _ h => h) HC12 rfl ?_; apply Exists.intro; refine ⟨?_, ?_⟩
          · rintro w r1; go_simp; try with_reducible rfl
          simp only [Act.put, List.setIfInBounds_toArray, List.set_cons_succ, List.set_cons_zero]
          refine Lim.stepR 2 (fun _ => trivial) rfl (by kernel_rfl) (fun _ _ _ _ h => h) HC12 rfl ?_; apply Exists.intro; refine ⟨?_, ?_⟩
          · rintro w r1; go_simp; try with_reducible rfl
          simp only [Act.put, List.setIfInBounds_toArray, List.set_cons_succ, List.set_cons_zero]
          refine Lim.stepR 3 (fun _ => trivial) rfl (by kernel_rfl) (fun _ _ _ _ h => h) HC12 rfl ?_; apply Exists.intro; refine ⟨?_, ?_⟩
          · rintro w r1; go_simp; try with_reducible rfl
          simp only [Act.put, List.setIfInBounds_toArray, List.set_cons_succ, List.set_cons_zero]
          refine Lim.stepR 4 (fun _ => trivial) rfl (by kernel_rfl) (fun _ _ _ _ h => h) HC12 rfl ?_; apply Exists.intro; refine ⟨?_, ?_⟩
          · rintro w r1; go_simp; try with_reducible rfl
          simp only [Act.put, List.setIfInBounds_toArray, List.set_cons_succ, List.set_cons_zero]
          refine Lim.stepR 5 (fun _ => trivial) rfl (by kernel_rfl) (fun _ _ _ _ h => h) HC12 rfl ?_; apply Exists.intro; refine ⟨?_, ?_⟩
          · rintro w r1; go_simp; try with_reducible rfl
          simp only [Act.put, List.setIfInBounds_toArray, List.set_cons_succ, List.set_cons_zero]
          refine Lim.stepR 6 (fun _ => trivial) rfl (by kernel_rfl) (fun _ _ _ _ h => h) HC12 rfl ?_; apply Exists.intro; refine ⟨?_, ?_⟩
          · rintro w r1; go_simp; try with_reducible rfl
          simp only [Act.put, List.setIfInBounds_toArray, List.set_cons_succ, List.set_cons_zero]
          refine Lim.stepR 7 (fun _ => trivial) rfl (by kernel_rfl) (fun _ _ _ _ h => h) HC12 rfl ?_; apply Exists.intro; refine ⟨?_, ?_⟩
          · rintro w r1; go_simp; try with_reducible rfl
          simp only [Act.put, List.setIfInBounds_toArray, List.set_cons_succ, List.set_cons_zero]
          refine Lim.stepR 8 (fun _ => trivial) rfl (by kernel_rfl) (fun _ _ _ _ h => h) HC12 rfl ?_; apply Exists.intro; refine ⟨?_, ?_⟩
          · rintro w r1; go_simp; try with_reducible rfl
          simp only [Act.put, List.setIfInBounds_toArray, List.set_cons_succ, List.set_cons_zero]
          refine Lim.stepR 9 (fun _ => trivial) rfl (by kernel_rfl) (fun _ _ _ _ h => h) HC12 rfl ?_; apply Exists.intro; refine ⟨?_, ?_⟩
          · rintro w r1; go_simp; try with_reducible rfl
          simp only [Act.put, List.setIfInBounds_toArray, List.set_cons_succ, List.set_cons_zero]
          refine Lim.stepD (by kernel_rfl) ?_
          clear HC12 e5 e6 e7
          generalize wr.drew = wz at HM ⊢
          obtain ⟨⟨c0, c1⟩, -, -⟩ := two_cells HM.out.2.2.2.b7
          obtain ⟨o1, ho1⟩ : ∃ o1, o1 = R1.getD ix 0 := ⟨_, rfl⟩
          have r0 : wz.cell? ⟨rb, ix, none⟩ = some (.int .i64 o1) := by
            have h := HM.out.2.2.2.ring.cells (g := rb) rfl ix (.int .i64 o1) (by rw [ho1]; exact ints_at' _ _ (by rw [HR1.out.1]; exact hixl))
            rwa [Addr.add_lit, Nat.zero_add] at h
          have HO1 : Hid (0 ≤ o1 ∧ o1 ≤ 3) := Lib.hid (by
            rw [ho1, List.getD_eq_getElem?_getD, List.getElem?_eq_getElem (by rw [HR1.out.1]; exact hixl)]
            exact HR1.out.2 _ (List.getElem_mem _))
          have CC := Lib.hid (deck_coin (n := 7) HM.out.2.2.2.deck (by have := HM.out.2.2.1; have := HDC.out.2; omega))
          clear ho1
          go_wp2_with fail
          refine CC.out.mono ?_
          rintro e w6 ⟨bc, rfl, hdl⟩
          have HM6 := Lib.hid (HM.out.2.2.2.dealt hdl)
          clear hdl CC c0 c1 r0 hmin hz1 hz2 hz3 hz4
          cases bc with
          | true =>
            have CD := Lib.hid (deck_draw (n := st) HM6.out.deck (by have := HM.out.2.2.1; have := HDC.out.2; omega))
            go_wp2_with fail
            refine CD.out.mono ?_
            rintro e w7 ⟨x, rfl, hx, hdl⟩
            have HX : Hid (0 ≤ x ∧ x ≤ 3) := Lib.hid ⟨hx.2.1, by have := hx.2.2 (by omega); omega⟩
            have HM7 := Lib.hid (HM6.out.dealt hdl)
            have HCB : Hid (c' + 1 + 1 ≤ c + 13 + 2 * (t + 1)) := Lib.hid (by have := HM.out.2.2.1; omega)
            clear hx hdl CD
            have HMA := Lib.hid (HM7.out.calm (grown_of ((Below.refl _ w7).alloc (Nat.le_refl _) (.cells #[.int .i64 x] 3))))
            have HOW := Lib.hid HM7.out.row
            have HL : Hid (os.length ≤ 100) := Lib.hid (by have := HM.out.1; omega)
            obtain ⟨⟨c0, c1⟩, -, -⟩ := two_cells HM7.out.b7
            go_wp2_with (at_builtin; refine wpList_append_own _ rfl _ _ 23 rfl B1 3 i0 (.int .i64 0) 1 8 Try.underlying23 HF.out.1 HF.out.2.1 HF.out.2.2.1 HF.out.2.2.2 rfl (by decide) _ _ _ rfl (HOW.out.alloc _) ⟨w7.heap.size, 0, none⟩ 1 1 [.int .i64 x] rfl rfl (cell_one_new _ _ _) (by simp [Value.oneCell']) (by have := HL.out; unfold maxLen; omega) (by have := HL.out; omega) (by have := HM7.out.lt; simp; omega) ?_; intro v' w8 hown8 hgrow _; have hB8 := (Sep.of_grown hgrow).heap HMA.out.b7 (fun e => by { have h1 := (HMA.out.row.lt _ e).1; have h2 := HMA.out.lt; omega }); obtain ⟨⟨y0, y1⟩, y2, y3⟩ := two_cells hB8; have hown9 : w8.ownsRow B1 3 1 v' (os ++ [x]).length (ints (os ++ [x])) := (by { have h := hown8; simpa [ints] using h }); obtain ⟨g8, k8, rfl, -, -⟩ := RowK.of_owns hown9 (by simp); have HM9 := Lib.hid (HMA.out.app hgrow hown9); clear hown8 hgrow hB8 hown9)
            go_roundw
            case rel => exact ⟨t + 1, by omega, by go_num, _, os ++ [x], _, Lib.hid ⟨by rw [List.length_append, HM.out.1]; rfl, (fun y hy => by
              rcases List.mem_append.1 hy with h | h
              · exact HM.out.2.1 y h
              · rw [List.mem_singleton.1 h]; exact HX.out), HCB.out, by have h := HM9.out; rw [show (os ++ [x]).length = os.length + 1 from by simp] at h; exact h⟩⟩
            case measure => simp [intOf]; omega
          | false =>
            obtain ⟨w7, rfl⟩ : ∃ w7, w7 = w6 := ⟨_, rfl⟩
            obtain ⟨x, rfl⟩ : ∃ x, x = o1 := ⟨_, rfl⟩
            have HX := HO1
            have HM7 := HM6
            have HCB : Hid (c' + 1 ≤ c + 13 + 2 * (t + 1)) := Lib.hid (by have := HM.out.2.2.1; omega)
            have HMA := Lib.hid (HM7.out.calm (grown_of ((Below.refl _ w7).alloc (Nat.le_refl _) (.cells #[.int .i64 x] 3))))
            have HOW := Lib.hid HM7.out.row
            have HL : Hid (os.length ≤ 100) := Lib.hid (by have := HM.out.1; omega)
            obtain ⟨⟨c0, c1⟩, -, -⟩ := two_cells HM7.out.b7
            go_wp2_with (at_builtin; refine wpList_append_own _ rfl _ _ 23 rfl B1 3 i0 (.int .i64 0) 1 8 Try.underlying23 HF.out.1 HF.out.2.1 HF.out.2.2.1 HF.out.2.2.2 rfl (by decide) _ _ _ rfl (HOW.out.alloc _) ⟨w7.heap.size, 0, none⟩ 1 1 [.int .i64 x] rfl rfl (cell_one_new _ _ _) (by simp [Value.oneCell']) (by have := HL.out; unfold maxLen; omega) (by have := HL.out; omega) (by have := HM7.out.lt; simp; omega) ?_; intro v' w8 hown8 hgrow _; have hB8 := (Sep.of_grown hgrow).heap HMA.out.b7 (fun e => by { have h1 := (HMA.out.row.lt _ e).1; have h2 := HMA.out.lt; omega }); obtain ⟨⟨y0, y1⟩, y2, y3⟩ := two_cells hB8; have hown9 : w8.ownsRow B1 3 1 v' (os ++ [x]).length (ints (os ++ [x])) := (by { have h := hown8; simpa [ints] using h }); obtain ⟨g8, k8, rfl, -, -⟩ := RowK.of_owns hown9 (by simp); have HM9 := Lib.hid (HMA.out.app hgrow hown9); clear hown8 hgrow hB8 hown9)
            go_roundw
            case rel => exact ⟨t + 1, by omega, by go_num, _, os ++ [x], _, Lib.hid ⟨by rw [List.length_append, HM.out.1]; rfl, (fun y hy => by
              rcases List.mem_append.1 hy with h | h
              · exact HM.out.2.1 y h
              · rw [List.mem_singleton.1 h]; exact HX.out), HCB.out, by have h := HM9.out; rw [show (os ++ [x]).length = os.length + 1 from by simp] at h; exact h⟩⟩
            case measure => simp [intOf]; omega
        · obtain rfl : t = n := by omega
          obtain ⟨g8, k8, rfl, -, -⟩ := RowK.of_owns hM.row (by rw [hlen]; have := HN.out; have := Nat.mul_pos hwd1 hhi1; omega)
          obtain ⟨⟨b0, b1⟩, b2, b3⟩ := two_cells hM.b6
          have HM := Lib.hid (And.intro hlen (And.intro hos (And.intro hc' hM)))
          clear hI hlen hos hc' hM
          rw [HM.out.1] at c1
          go_wp2_with fail
          have hs : Sep (fun x => x = q6) wr ((wr.setCell ⟨q6, 0, none⟩ (.int .i64 wd)).setCell ⟨q6, 1, none⟩ (.slice (some ⟨g8, 0, none⟩) t k8)) := (Sep.set wr q6 0 _).trans (Sep.set _ q6 1 _)
          have r0 : ((wr.setCell ⟨q6, 0, none⟩ (.int .i64 wd)).setCell ⟨q6, 1, none⟩ (.slice (some ⟨g8, 0, none⟩) t k8)).cell? ⟨q6, 0, none⟩ = some (.int .i64 wd) := by rw [setCell_off _ _ (by omega)]; exact setCell_same _ _ b0
          have r1 : ((wr.setCell ⟨q6, 0, none⟩ (.int .i64 wd)).setCell ⟨q6, 1, none⟩ (.slice (some ⟨g8, 0, none⟩) t k8)).cell? ⟨q6, 1, none⟩ = some (.slice (some ⟨g8, 0, none⟩) t k8) := setCell_same _ _ (by rw [setCell_off _ _ (by omega)]; exact b1)
          refine bodyPost_ret (results_mid (fn := Try.f7) (p := 6) (ty := 25) rfl _ _ q6 0 [_, _] _ rfl (two_range r0 r1) Try.underlying25 rfl Try.infoMap) rfl ?_
          have hM := HM.out.2.2.2
          have hl := hM.lt
          have hrow := owns_mono (base' := w.heap.size) (owns_sep (T := fun k => k = q6) hM.row hs (fun k e => by omega)) (by omega)
          exact ⟨wd, hi, .slice (some ⟨g8, 0, none⟩) t k8, os, rfl, hwd1, by have := HH.out.1; omega, hhi1, by have := HH.out.2.1; omega, HM.out.1.trans HN.out, HM.out.2.1, by rw [← HM.out.1] at hrow ⊢; exact hrow, hM.sep.from hs (fun k hk e => by have := HQ6.out; omega)⟩
end Go.Proofs.Ytiacgaplhndlnaa
