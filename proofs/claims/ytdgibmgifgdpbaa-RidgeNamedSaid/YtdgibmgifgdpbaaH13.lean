/-
  Parts of the proof, in the order in which they build: Just.
-/
import Derived.Test.YtdgibmgifgdpbaaH10
import Derived.Test.YtdgibmgifgdpbaaH3
set_option linter.unusedVariables false
set_option linter.unusedSimpArgs false
namespace Go.Proofs.Ytdgibmgifgdpbaa
open Go.RowKit Go.Shelf
open Lim

theorem store_two_at {P : Program} {W : World} {p o : Nat} {u0 u1 : Value} (x y : Value) (hx : x.oneCell' = true) (hy : y.oneCell' = true) (h0 : W.cell? ⟨p, o, none⟩ = some u0) (h1 : W.cell? ⟨p, o + 1, none⟩ = some u1) (f0 : W.frozen? ⟨p, o, none⟩ = false) (f1 : W.frozen? ⟨p, o + 1, none⟩ = false) :
    (storeCells ⟨p, o, none⟩ [x, y]).run P W = .ok () ((W.setCell ⟨p, o, none⟩ x).setCell ⟨p, o + 1, none⟩ y) := by
  have := run_storeCells_cells (P := P) p o [x, y] 0 W (fun j hj => by
      match j with
      | 0 => simp [h0]
      | 1 => simp [h1]
      | j + 2 => exact absurd hj (by simp)) (fun j hj => by
      match j with
      | 0 => simpa using f0
      | 1 => simpa using f1
      | j + 2 => exact absurd hj (by simp)) (fun v hv => by
      rcases List.mem_cons.1 hv with rfl | hv
      · exact hx
      · rcases List.mem_cons.1 hv with rfl | hv
        · exact hy
        · cases hv)
  simpa [World.setCells] using this
theorem spans_set (L : List (Int × Int)) : ∀ (k : Nat) (x y : Int), ((spans L).set (k * 2) (.int .i64 x)).set (k * 2 + 1) (.int .i64 y) = spans (L.set k (x, y)) := by
  induction L with
  | nil => intro k x y; rfl
  | cons s L ih =>
    intro k x y
    rw [spans_cons]
    cases k with
    | zero => rfl
    | succ k =>
      rw [show (k + 1) * 2 = k * 2 + 1 + 1 from by omega]
      simp only [List.set_cons_succ]
      rw [ih k x y, spans_cons]
/-- a row of spans has been written at k -/
theorem span_put {W : World} {S p n cap : Nat} {L : List (Int × Int)} (h : W.ownsRow S 54 2 (.slice (some ⟨p, 0, none⟩) n cap) n (spans L)) (k : Nat) (x y : Int) :
    ((W.setCell ⟨p, k * 2, none⟩ (.int .i64 x)).setCell ⟨p, k * 2 + 1, none⟩ (.int .i64 y)).ownsRow S 54 2 (.slice (some ⟨p, 0, none⟩) n cap) n (spans (L.set k (x, y))) := by
  rw [← spans_set]
  exact ((h.stored (k * 2) (.int .i64 x)).1.stored (k * 2 + 1) (.int .i64 y)).1
theorem span_at {W : World} {S p n cap : Nat} {L : List (Int × Int)} (h : W.ownsRow S 54 2 (.slice (some ⟨p, 0, none⟩) n cap) n (spans L)) {k : Nat} (hk : k < n) :
    (W.cell? ⟨p, k * 2, none⟩ = some (.int .i64 (L.getD k (0, 0)).1) ∧ W.cell? ⟨p, k * 2 + 1, none⟩ = some (.int .i64 (L.getD k (0, 0)).2)) ∧ W.frozen? ⟨p, k * 2, none⟩ = false ∧ W.frozen? ⟨p, k * 2 + 1, none⟩ = false := by
  have hl : L.length = n := by have := h.1; rw [spans_length] at this; omega
  have hk' : k < L.length := by omega
  refine ⟨⟨?_, ?_⟩, h.frozenAt _, h.frozenAt _⟩
  · rw [h.cellAt _ (by omega), spans_lo L k hk', List.getD_eq_getElem?_getD, List.getElem?_eq_getElem hk']; rfl
  · rw [h.cellAt _ (by omega), spans_hi L k hk', List.getD_eq_getElem?_getD, List.getElem?_eq_getElem hk']; rfl
/-- the heights of the first k cells of a truth -/
def justTo (hs : List (Int × Int)) (T : List Int) : Nat → List (Int × Int)
  | 0 => hs
  | k + 1 => (justTo hs T k).set k (T.getD k 0, T.getD k 0)
theorem justTo_len (hs : List (Int × Int)) (T : List Int) : ∀ k, (justTo hs T k).length = hs.length
  | 0 => rfl
  | k + 1 => by show ((justTo hs T k).set k _).length = _; rw [List.length_set, justTo_len hs T k]
theorem spget (L : List (Int × Int)) (i j : Nat) (v : Int × Int) : (L.set i v).getD j (0, 0) = if i = j ∧ j < L.length then v else L.getD j (0, 0) := by
  rw [List.getD_eq_getElem?_getD, List.getD_eq_getElem?_getD, List.getElem?_set]
  by_cases h : i = j
  · subst h
    by_cases h2 : i < L.length
    · simp [h2]
    · simp [h2]
  · simp [h]
theorem justTo_get (hs : List (Int × Int)) (T : List Int) : ∀ k c, c < hs.length → (justTo hs T k).getD c (0, 0) = if c < k then (T.getD c 0, T.getD c 0) else hs.getD c (0, 0)
  | 0, c, _ => by rfl
  | k + 1, c, hc => by
    show ((justTo hs T k).set k _).getD c (0, 0) = _
    rw [spget, justTo_len, justTo_get hs T k c hc]
    by_cases e : k = c
    · subst e; rw [if_pos ⟨rfl, hc⟩, if_pos (by omega)]
    · rw [if_neg (by omega)]
      by_cases h2 : c < k
      · rw [if_pos h2, if_pos (by omega)]
      · rw [if_neg h2, if_neg (by omega)]
/-- memory while a truth's ground is made -/
structure JuS (w : World) (wd : Int) (p cap q : Nat) (sv : Value) (n : Nat) (ss : List Int) (L : List (Int × Int)) (W : World) : Prop where
  b : Below w.heap.size w W
  zz : W.heap[w.heap.size + 1]? = some (.cells #[.int .i64 0, .slice none 0 0, .slice none 0 0] 25 (0, 0))
  bx : W.heap[q]? = some (.cells #[.int .i64 wd, .slice (some ⟨p, 0, none⟩) n cap, sv] 25 (0, 0))
  q : w.heap.size + 1 < q
  h : W.ownsRow w.heap.size 54 2 (.slice (some ⟨p, 0, none⟩) n cap) n (spans L)
  s : W.ownsRow w.heap.size 3 1 sv ss.length (ints ss)
theorem JuS.box {w : World} {wd : Int} {p cap q : Nat} {sv : Value} {n : Nat} {ss : List Int} {L : List (Int × Int)} {W : World} (H : JuS w wd p cap q sv n ss L W) : W.cell? ⟨q, 0, none⟩ = some (.int .i64 wd) ∧ W.cell? ⟨q, 1, none⟩ = some (.slice (some ⟨p, 0, none⟩) n cap) ∧ W.cell? ⟨q, 2, none⟩ = some sv := (cell_of_heap H.bx).1
theorem JuS.grow {w : World} {wd : Int} {p cap q : Nat} {sv : Value} {n : Nat} {ss : List Int} {L : List (Int × Int)} {W W' : World} (H : JuS w wd p cap q sv n ss L W) (hb : Below W.heap.size W W') : JuS w wd p cap q sv n ss L W' :=
  ⟨H.b.trans (hb.mono H.b.size), heap_grow H.zz hb, heap_grow H.bx hb, H.q, owns_below H.h hb, owns_below H.s hb⟩
theorem JuS.at {w : World} {wd : Int} {p cap q : Nat} {sv : Value} {n : Nat} {ss : List Int} {L : List (Int × Int)} {W : World} (H : JuS w wd p cap q sv n ss L W) {k : Nat} (hk : k < n) :
    (W.cell? ⟨p, k * 2, none⟩ = some (.int .i64 (L.getD k (0, 0)).1) ∧ W.cell? ⟨p, k * 2 + 1, none⟩ = some (.int .i64 (L.getD k (0, 0)).2)) ∧ W.frozen? ⟨p, k * 2, none⟩ = false ∧ W.frozen? ⟨p, k * 2 + 1, none⟩ = false := span_at H.h hk
theorem JuS.put {w : World} {wd : Int} {p cap q : Nat} {sv : Value} {n : Nat} {ss : List Int} {L : List (Int × Int)} {W : World} (H : JuS w wd p cap q sv n ss L W) {k : Nat} (hk : k < n) (x : Int) : JuS w wd p cap q sv n ss (L.set k (x, x)) ((W.setCell ⟨p, k * 2, none⟩ (.int .i64 x)).setCell ⟨p, k * 2 + 1, none⟩ (.int .i64 x)) := by
  obtain ⟨hS, hlt, cs, hp⟩ := owned_block (r := ⟨54, 2, .slice (some ⟨p, 0, none⟩) n cap, n, spans L⟩) H.h (k := p) rfl
  have hp : W.heap[p]? = some (.cells cs 54 (0, 0)) := hp
  have off : ∀ r, r ≠ p → ((W.setCell ⟨p, k * 2, none⟩ (.int .i64 x)).setCell ⟨p, k * 2 + 1, none⟩ (.int .i64 x)).heap[r]? = W.heap[r]? := fun r hr => by
    rw [Below.heap_setCell _ _ _ r hr, Below.heap_setCell _ _ _ r hr]
  have ne : ∀ (r : Nat) (t : TypeId) (cs : Array Value) (fr : Nat × Nat), W.heap[r]? = some (Obj.cells cs t fr) → t ≠ 54 → r ≠ p := fun r t cs fr hr ht e => by
    subst e; rw [hp] at hr; cases hr; exact ht rfl
  exact ⟨(H.b.setCell (p := ⟨p, k * 2, none⟩) hS _).setCell (p := ⟨p, k * 2 + 1, none⟩) hS _, (off _ (ne _ _ _ _ H.zz (by decide))).trans H.zz, (off _ (ne _ _ _ _ H.bx (by decide))).trans H.bx, H.q, span_put H.h k x x,
    owned_keep (r := ⟨3, 1, sv, ss.length, ints ss⟩) H.s (fun r hr => off _ (by
      obtain ⟨-, -, cs', hc⟩ := owned_block (r := ⟨3, 1, sv, ss.length, ints ss⟩) H.s hr
      have hc : W.heap[r]? = some (.cells cs' 3 (0, 0)) := hc
      exact ne _ _ _ _ hc (by decide)))⟩
theorem JuS.out {w : World} {wd : Int} {p cap q : Nat} {sv : Value} {n : Nat} {ss : List Int} {L : List (Int × Int)} {W : World} (H : JuS w wd p cap q sv n ss L W) (a b c : Value) (W' : World) (hW : W' = ((W.setCell ⟨w.heap.size + 1, 0, none⟩ a).setCell ⟨w.heap.size + 1, 1, none⟩ b).setCell ⟨w.heap.size + 1, 2, none⟩ c) :
    W'.ownsRow w.heap.size 54 2 (.slice (some ⟨p, 0, none⟩) n cap) n (spans L) ∧ W'.ownsRow w.heap.size 3 1 sv ss.length (ints ss) ∧ Below w.heap.size w W' := by
  subst hW
  have off : ∀ r, r ≠ w.heap.size + 1 → (((W.setCell ⟨w.heap.size + 1, 0, none⟩ a).setCell ⟨w.heap.size + 1, 1, none⟩ b).setCell ⟨w.heap.size + 1, 2, none⟩ c).heap[r]? = W.heap[r]? := fun r hr => by
    rw [Below.heap_setCell _ _ _ r hr, Below.heap_setCell _ _ _ r hr, Below.heap_setCell _ _ _ r hr]
  have ne : ∀ (r : Nat) (t : TypeId) (cs : Array Value) (fr : Nat × Nat), W.heap[r]? = some (Obj.cells cs t fr) → t ≠ 25 → r ≠ w.heap.size + 1 := fun r t cs fr hr ht e => by
    subst e; rw [H.zz] at hr; cases hr; exact ht rfl
  exact ⟨owned_keep (r := ⟨54, 2, .slice (some ⟨p, 0, none⟩) n cap, n, spans L⟩) H.h (fun r hr => off _ (by
      obtain ⟨-, -, cs', hc⟩ := owned_block (r := ⟨54, 2, .slice (some ⟨p, 0, none⟩) n cap, n, spans L⟩) H.h hr
      have hc : W.heap[r]? = some (.cells cs' 54 (0, 0)) := hc
      exact ne _ _ _ _ hc (by decide))),
    owned_keep (r := ⟨3, 1, sv, ss.length, ints ss⟩) H.s (fun r hr => off _ (by
      obtain ⟨-, -, cs', hc⟩ := owned_block (r := ⟨3, 1, sv, ss.length, ints ss⟩) H.s hr
      have hc : W.heap[r]? = some (.cells cs' 3 (0, 0)) := hc
      exact ne _ _ _ _ hc (by decide))),
    ((H.b.setCell (p := ⟨w.heap.size + 1, 0, none⟩) (Nat.le_succ _) _).setCell (p := ⟨w.heap.size + 1, 1, none⟩) (Nat.le_succ _) _).setCell (p := ⟨w.heap.size + 1, 2, none⟩) (Nat.le_succ _) _⟩

set_option maxRecDepth 20000 in
set_option maxHeartbeats 2000000 in
theorem just_any {B : Nat} {wd : Int} {hv sv tv : Value} {hs : List (Int × Int)} {ss T : List Int} {w : World} (hB : B ≤ w.heap.size) (hh : RS B w hv hs.length (spans hs)) (hss : RS B w sv ss.length (ints ss)) (ht : RS B w tv T.length (ints T)) (h0 : 0 < hs.length) (hn : hs.length ≤ 1000) (hm : ss.length ≤ 1000) (hT : T.length = hs.length) :
    Calls Try.prog 37 #[.agg #[.int .i64 wd, hv, sv], tv] w fun e w' => ∃ hv' sv', e = .returned (.agg #[.int .i64 wd, hv', sv']) ∧ w'.ownsRow w.heap.size 54 2 hv' hs.length (spans (justTo hs T hs.length)) ∧ w'.ownsRow w.heap.size 3 1 sv' ss.length (ints ss) ∧ Below w.heap.size w w' := by
  have B1 : Below w.heap.size w ((w.alloc (.cells #[.int .i64 wd, hv, sv] 25)).alloc (.cells #[.int .i64 0, .slice none 0 0, .slice none 0 0] 25)) := ((Below.refl _ w).alloc (Nat.le_refl _) _).alloc (by simp) _
  have HZ := Lib.hid (heap_alloc_new (w.alloc (.cells #[.int .i64 wd, hv, sv] 25)) (.cells #[.int .i64 0, .slice none 0 0, .slice none 0 0] 25))
  have CC := Lib.hid (lclone_any (B := B) (wd := wd) (by simp; omega) (hh.below (B1.mono hB)) (hss.below (B1.mono hB)) hn hm)
  have HB := Lib.hid (And.intro B1 hB)
  have HT := Lib.hid ht
  have HNN := Lib.hid (And.intro h0 (And.intro hn hm))
  obtain ⟨ha, hcap, rfl, -⟩ := hh
  obtain ⟨sa, scap, rfl, -⟩ := hss
  obtain ⟨ta, tcap, rfl, hta⟩ := ht
  obtain ⟨tb, toff, rfl, htb, htc⟩ := hta (ints_ne (by omega))
  have HTC := Lib.hid (And.intro htb htc)
  have hT' : (T.length : Int) = (hs.length : Int) := by omega
  have HTl := Lib.hid hT
  clear B1 hB hn hm hT h0 hta htb htc
  go_enter Try.func37, Try.ntmps37
  go_wp2_with fail
  refine CC.out.mono ?_
  rintro e w2 ⟨hv', sv', rfl, o1, o2, hb⟩
  obtain ⟨p, cap, rfl⟩ : ∃ p cap, hv' = .slice (some ⟨p, 0, none⟩) hs.length cap := by
    rcases o1.2 with ⟨h1, h2⟩ | ⟨g, cap, cur, h1, -⟩
    · have := HNN.out.1; omega
    · exact ⟨g, cap, h1⟩
  have hq : w.heap.size + 1 < w2.heap.size := by have := hb.size; simp at this; omega
  have hz2 := heap_grow (HZ.out) hb
  simp at hz2
  have HJ : Hid (JuS w wd p cap w2.heap.size sv' hs.length ss hs (w2.alloc (.cells #[.int .i64 wd, .slice (some ⟨p, 0, none⟩) hs.length cap, sv'] 25))) := Lib.hid (by
    have hb2 : Below w2.heap.size w2 (w2.alloc (.cells #[.int .i64 wd, .slice (some ⟨p, 0, none⟩) hs.length cap, sv'] 25)) := (Below.refl _ w2).alloc (Nat.le_refl _) _
    have hbw : Below w.heap.size w w2 := HB.out.1.trans (hb.mono (by simp; omega))
    exact ⟨hbw.trans (hb2.mono hbw.size), heap_grow hz2 hb2, heap_alloc_new w2 _, hq, owns_mono (owns_below o1 hb2) (by simp; omega), owns_mono (owns_below o2 hb2) (by simp; omega)⟩)
  obtain ⟨sb, scp, rfl, -⟩ := RS.of_owns o2
  clear o1 o2 hb hz2 CC HZ
  go_wp2_with fail
  obtain ⟨q, hqe⟩ : ∃ q, q = w2.heap.size := ⟨_, rfl⟩
  simp only [← hqe] at HJ ⊢
  generalize (w2.alloc (.cells #[.int .i64 wd, .slice (some ⟨p, 0, none⟩) hs.length cap, .slice sb ss.length scp] 25)) = w3 at HJ ⊢
  clear hqe hq
  go_loopw [12] (fun i W => ∃ k : Nat, k ≤ hs.length ∧ i = .int .i64 k ∧ Hid (JuS w wd p cap q (.slice sb ss.length scp) hs.length ss (justTo hs T k) W)) (fun i _ => hs.length - (intOf i).toNat)
  case atStart => exact ⟨0, Nat.zero_le _, rfl, HJ⟩
  case round =>
    clear HJ
    obtain ⟨k, hk, rfl, HM⟩ := hrel
    by_cases hlt : k < hs.length
    · have hlT : k < T.length := by omega
      obtain ⟨x, hx⟩ : ∃ x, x = T.getD k 0 := ⟨_, rfl⟩
      have q0 : wr.cell? ⟨tb, toff + k, none⟩ = some (.int .i64 x) := (HM.out.b.cell (p := ⟨tb, toff + k, none⟩) (by have h1 := HTC.out.1; have h2 := HB.out.2; show tb < _; omega)).trans (by rw [HTC.out.2 k _ (ints_at' T k hlT), hx, List.getD_eq_getElem?_getD])
      have HX := Lib.hid hx
      clear hx
      have hk9 : (k : Int) < 1000 := by have := HNN.out.2.1; omega
      have hi1 : (k : Int) < (hs.length : Int) := by omega
      go_wp2_with fail
      have HM1 := Lib.hid (HM.out.grow (Below.refl _ wr).drew)
      have hC : (fun W => W.cell? ⟨q, 1, none⟩ = some (.slice (some ⟨p, 0, none⟩) hs.length cap)) wr.drew := HM1.out.box.2.1
      clear HM q0
      refine Lim.regC' (fun W => W.cell? ⟨q, 1, none⟩ = some (.slice (some ⟨p, 0, none⟩) hs.length cap)) [] #[false, false, false, false, false, false, false, false] (by kernel_rfl) rfl ?_
      refine Lim.stepR 0 (fun _ => trivial) rfl (by kernel_rfl) (fun _ _ _ _ h => h) hC rfl ?_; apply Exists.intro; refine ⟨?_, ?_⟩
      · rintro w r1; go_simp; try with_reducible rfl
      simp only [Act.put, List.setIfInBounds_toArray, List.set_cons_succ, List.set_cons_zero]
      refine Lim.stepR 1 (fun _ => trivial) rfl (by kernel_rfl) (fun _ _ _ _ h => h) hC rfl ?_; apply Exists.intro; refine ⟨?_, ?_⟩
      · rintro w r1; go_simp; try with_reducible rfl
      simp only [Act.put, List.setIfInBounds_toArray, List.set_cons_succ, List.set_cons_zero]
      refine Lim.stepR 2 (fun _ => trivial) rfl (by kernel_rfl) (fun _ _ _ _ h => h) hC rfl ?_; apply Exists.intro; refine ⟨?_, ?_⟩
      · rintro w r1; go_simp; try with_reducible rfl
      simp only [Act.put, List.setIfInBounds_toArray, List.set_cons_succ, List.set_cons_zero]
      refine Lim.stepR 3 (fun _ => trivial) rfl (by kernel_rfl) (fun _ _ _ _ h => h) hC rfl ?_; apply Exists.intro; refine ⟨?_, ?_⟩
      · rintro w r1; go_simp; try with_reducible rfl
      simp only [Act.put, List.setIfInBounds_toArray, List.set_cons_succ, List.set_cons_zero]
      refine Lim.stepR 4 (fun _ => trivial) rfl (by kernel_rfl) (fun _ _ _ _ h => h) hC rfl ?_; apply Exists.intro; refine ⟨?_, ?_⟩
      · rintro w r1; go_simp; try with_reducible rfl
      simp only [Act.put, List.setIfInBounds_toArray, List.set_cons_succ, List.set_cons_zero]
      refine Lim.stepE 5 (fun _ => trivial) rfl (by kernel_rfl) rfl (fun K hK => ?_)   -- E call
      go_simp
      refine ⟨rfl, (callsIn_wide.2 (span_any x x _)).mono ?_⟩
      rintro e W2 ⟨rfl, hb2⟩
      have HM2 := Lib.hid (HM1.out.grow hb2)
      have hC2 : (fun W => W.cell? ⟨q, 1, none⟩ = some (.slice (some ⟨p, 0, none⟩) hs.length cap)) W2 := HM2.out.box.2.1
      refine hK _ _ hC2 ?_
      clear hb2
      simp only [Act.put, List.setIfInBounds_toArray, List.set_cons_succ, List.set_cons_zero]
      refine Lim.stepR 6 (fun _ => trivial) rfl (by kernel_rfl) (fun _ _ _ _ h => h) hC2 rfl ?_; apply Exists.intro; refine ⟨?_, ?_⟩
      · rintro w r1; go_simp; try with_reducible rfl
      simp only [Act.put, List.setIfInBounds_toArray, List.set_cons_succ, List.set_cons_zero]
      refine Lim.stepE 7 (fun _ => trivial) rfl (by kernel_rfl) rfl (fun K hK => ?_)   -- E store
      obtain ⟨⟨k0, k1⟩, f0, f1⟩ := HM2.out.at hlt
      have k1' : (W2.setCell ⟨p, k * 2, none⟩ (.int .i64 x)).cell? ⟨p, k * 2 + 1, none⟩ = some _ := (setCell_off _ _ (by omega)).trans k1
      have f1' : (W2.setCell ⟨p, k * 2, none⟩ (.int .i64 x)).frozen? ⟨p, k * 2 + 1, none⟩ = false := (World.frozen?_setCell ..).trans f1
      have HM3 := Lib.hid (HM2.out.put hlt x)
      clear k1 f1
      go_simp
      have hC3 : (fun W => W.cell? ⟨q, 1, none⟩ = some (.slice (some ⟨p, 0, none⟩) hs.length cap)) ((W2.setCell ⟨p, k * 2, none⟩ (.int .i64 x)).setCell ⟨p, k * 2 + 1, none⟩ (.int .i64 x)) := HM3.out.box.2.1
      refine hK _ _ hC3 ?_
      simp only [Act.put, List.setIfInBounds_toArray, List.set_cons_succ, List.set_cons_zero]
      refine Lim.stepD (by kernel_rfl) ?_
      clear hC hC2 hC3 HM1 HM2 k0 k1' f0 f1'
      generalize (W2.setCell ⟨p, k * 2, none⟩ (.int .i64 x)).setCell ⟨p, k * 2 + 1, none⟩ (.int .i64 x) = W3 at HM3 ⊢
      go_wp2
      go_roundw
      case rel => exact ⟨k + 1, by omega, by go_num, Lib.hid (by have h := HM3.out; rw [HX.out] at h; exact h)⟩
      case measure => simp [intOf]; omega
    · have hkn : k = hs.length := by omega
      subst hkn
      obtain ⟨b0, b1, b2⟩ := HM.out.box
      obtain ⟨⟨z0, z1, z2⟩, zf0, zf1, zf2⟩ := cell_of_heap HM.out.zz
      go_wp2
      obtain ⟨o1, o2, o3⟩ := HM.out.out (.int .i64 wd) (.slice (some ⟨p, 0, none⟩) hs.length cap) (.slice sb ss.length scp) _ rfl
      have hbx : (((wr.setCell ⟨w.heap.size + 1, 0, none⟩ (.int .i64 wd)).setCell ⟨w.heap.size + 1, 1, none⟩ (.slice (some ⟨p, 0, none⟩) hs.length cap)).setCell ⟨w.heap.size + 1, 2, none⟩ (.slice sb ss.length scp)).heap[w.heap.size + 1]? = some (.cells #[.int .i64 wd, .slice (some ⟨p, 0, none⟩) hs.length cap, .slice sb ss.length scp] 25 (0, 0)) := by
        rw [heap_setCell_self _ (heap_setCell_self _ (heap_setCell_self _ HM.out.zz))]; rfl
      obtain ⟨⟨c0, c1, c2⟩, -, -, -⟩ := cell_of_heap hbx
      refine bodyPost_ret (v := .agg #[.int .i64 wd, .slice (some ⟨p, 0, none⟩) hs.length cap, .slice sb ss.length scp]) (results_mid rfl _ _ (w.heap.size + 1) 0 [.int .i64 wd, .slice (some ⟨p, 0, none⟩) hs.length cap, .slice sb ss.length scp] _ rfl (range3 c0 c1 c2) Try.underlying25 rfl size_lclone_any) rfl ?_
      exact ⟨_, _, rfl, o1, o2, o3⟩
end Go.Proofs.Ytdgibmgifgdpbaa
