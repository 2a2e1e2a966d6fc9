/-
  Parts of the proof, in the order in which they build: PoF, PoG.
-/
import Derived.Test.YtohjinbgbfggcaaA43
import Derived.Test.YtohjinbgbfggcaaA42
import Derived.Test.YtohjinbgbfggcaaA4
set_option linter.unusedVariables false
set_option linter.unusedSimpArgs false
/-
  Two decks: one is written, the other stays.
-/
namespace Go.Proofs.Ytohjinbgbfggcaa
open Go.RowKit Go.Shelf
open Lim

/-- another deck is written -/
theorem Dk.other {W W' : World} {d e B : Nat} {cv : Value} {l : List Int} {k s : Int} (h : Dk W d cv l k s) (hB : RS B W cv l.length (u8s l)) (hBe : B ≤ e) (hde : d ≠ e) (hBd : B ≤ d) (hg : W.grownBy W' (some e)) : Dk W' d cv l k s := by
  have hdl : d < W.heap.size := World.block_lt_of_cell? _ _ h.c.1
  have he : W'.heap[d]? = W.heap[d]? := hg.block d hdl (fun e => by cases e; exact hde rfl)
  have hBW : B ≤ W.heap.size := by omega
  have hb : Below B W W' := ⟨hg.os, hg.tape, hg.output, hg.size, fun k hk => hg.block k (by omega) (fun e => by cases e; omega)⟩
  exact ⟨⟨(World.cell?_of_block he).trans h.c.1, (World.cell?_of_block he).trans h.c.2.1, (World.cell?_of_block he).trans h.c.2.2⟩, ⟨(World.frozen?_of_block he).trans h.f.1, (World.frozen?_of_block he).trans h.f.2⟩, (hB.below hb).mono hBd, h.u, h.k0, h.s0⟩
set_option maxRecDepth 20000 in
set_option maxHeartbeats 1000000 in
/-- a deck of bytes, and what it is made of -/
theorem of_dk {B : Nat} {cv : Value} {l : List Int} {w : World} (hB : B ≤ w.heap.size) (h : RS B w cv l.length (u8s l)) (hu : ∀ x ∈ l, 0 ≤ x ∧ x ≤ 255) :
    Calls Try.prog 4 #[cv] w fun e w' => e = .returned (.pointer (some ⟨w.heap.size, 0, none⟩)) ∧ Dk w' w.heap.size cv l 0 9 ∧ Below w.heap.size w w' ∧ w'.heap.size = w.heap.size + 1 := by
  have hb : Below w.heap.size w (w.alloc (.cells #[cv, .int .i64 0, .int .u32 9] 51)) := (Below.refl _ w).alloc (Nat.le_refl _) _
  have HD : Hid (Dk (w.alloc (.cells #[cv, .int .i64 0, .int .u32 9] 51)) w.heap.size cv l 0 9) := Lib.hid
    ⟨⟨by simp [go_sem], by simp [go_sem], by simp [go_sem]⟩, ⟨by simp [go_sem], by simp [go_sem]⟩, (h.mono hB).below hb, hu, by omega, by omega⟩
  have HB := Lib.hid hb
  obtain ⟨a, cap, rfl, -⟩ := h
  clear hb
  go_enter Try.func4, Try.ntmps4
  go_wp2
  go_ret
  exact ⟨rfl, HD.out, HB.out, by simp⟩
theorem Dk.deck {W : World} {d : Nat} {cv : Value} {l : List Int} {k s : Int} (h : Dk W d cv l k s) {n : Nat} (hn : k ≤ n) : Deck W d n := ⟨cv, l, k, s, h, hn⟩
theorem Dk.below {W W' : World} {d : Nat} {cv : Value} {l : List Int} {k s : Int} (h : Dk W d cv l k s) (hb : Below W.heap.size W W') : Dk W' d cv l k s :=
  have hd : d < W.heap.size := World.block_lt_of_cell? _ _ h.c.1
  ⟨⟨cell_on hb h.c.1, cell_on hb h.c.2.1, cell_on hb h.c.2.2⟩, ⟨frozen_on hb h.c.2.1 h.f.1, frozen_on hb h.c.2.2 h.f.2⟩, h.r.below (hb.mono (Nat.le_of_lt hd)), h.u, h.k0, h.s0⟩
/-- behind both decks and a profile that is made of the first one -/
theorem Mem.start2 {w w1 w2 w3 : World} {B : Nat} {uv : Value} {u : List Int} {k s : Int} {hv gv tv : Value} {p : Pf} {T : List Int} (hB : B ≤ w.heap.size) (hu : RS B w uv u.length (u8s u))
    (hb1 : Below w.heap.size w w1) (hs1 : w1.heap.size = w.heap.size + 1) (hd1 : Dk w2 w1.heap.size uv u k s) (hb2 : Below w1.heap.size w1 w2) (hs2 : w2.heap.size = w1.heap.size + 1) (hk : k ≤ 0) (hgr : w2.grownBy w3 (some w.heap.size))
    (o1 : w3.ownsRow w2.heap.size 3 1 hv p.ats.length (ints p.ats)) (o2 : w3.ownsRow w2.heap.size 28 2 gv p.gr.length (spans p.gr)) (o3 : w3.ownsRow w2.heap.size 3 1 tv T.length (ints T)) :
    Mem w w2.heap.size w1.heap.size 0 [rwI hv p.ats.length p.ats, rwS gv p.gr.length p.gr, rwI tv T.length T] [] [] w3 := by
  have h1 := hb1.size
  have h4 := hgr.size
  refine ⟨Below.grown (hb1.trans (hb2.mono h1)) hgr (by omega) (fun r e => by cases e; exact Nat.le_refl _), ⟨h1, by omega, h4⟩, (hd1.other (hu.below ((hb1.trans (hb2.mono h1)).mono hB)) hB (by omega) (by omega) hgr).deck (n := 0) (by omega), ?_, fun r hr => (by cases hr), fun p hp => (by cases hp), fun p hp => (by cases hp), fun p hp => (by cases hp), List.Pairwise.nil, List.Pairwise.nil, fun q hq => (by cases hq)⟩
  intro r hr
  simp only [List.mem_cons, List.not_mem_nil, or_false] at hr
  rcases hr with rfl | rfl | rfl
  · exact o1
  · exact o2
  · exact o3
section
variable {w : World} {S d c c' : Nat} {R Q : List Row} {X : List (Nat × Obj)} {W W' : World}
theorem Mem.box5 (H : Mem w S d c R Q X W) {q : Nat} {a b e f g : Value} {t : TypeId} (h : (q, Obj.cells #[a, b, e, f, g] t (0, 0)) ∈ X) : W.cell? ⟨q, 0, none⟩ = some a ∧ W.cell? ⟨q, 1, none⟩ = some b ∧ W.cell? ⟨q, 2, none⟩ = some e ∧ W.cell? ⟨q, 3, none⟩ = some f ∧ W.cell? ⟨q, 4, none⟩ = some g := (five_cells (H.x _ h).2).1
theorem Mem.box2 (H : Mem w S d c R Q X W) {q : Nat} {a b : Value} {t : TypeId} (h : (q, Obj.cells #[a, b] t (0, 0)) ∈ X) : W.cell? ⟨q, 0, none⟩ = some a ∧ W.cell? ⟨q, 1, none⟩ = some b := (two_cellsD (H.x _ h).2).1
/-- a row that a call has made, which drew of the deck, too -/
theorem Mem.drawR (H : Mem w S d c R Q X W) (hg : W.grownBy W' (some d)) (hd : Deck W' d c') {r : Row} (hr : r.Owned W' W.heap.size) : Mem w S d c' (r :: R) Q X W' := by
  have H1 := H.draw hg hd
  refine ⟨H1.b, H1.o, H1.dk, fun q hq => ?_, H1.q, H1.x, fun p hp q hq => ?_, H1.xq, H1.xx, H1.qq, fun q hq s hs => ?_⟩
  · rcases List.mem_cons.1 hq with rfl | hq
    · exact owns_mono hr H.o.2.2
    · exact H1.r q hq
  · rcases List.mem_cons.1 hq with rfl | hq
    · intro e
      have h1 := (owned_block hr e).1
      have h2 := H.lt hp
      omega
    · exact H1.xr p hp q hq
  · rcases List.mem_cons.1 hs with rfl | hs
    · intro k h1 h2
      have h3 := (owned_block hr h2).1
      have h4 := (owned_block (H.q q hq) h1).2.1
      omega
    · exact H1.qr q hq s hs
theorem Mem.drewN (H : Mem w S d c R Q X W) (n : Nat) : Mem w S d c R Q X (W.drewN n) := H.grow (below_drewN (Below.refl _ _) n)
theorem Mem.drew (H : Mem w S d c R Q X W) : Mem w S d c R Q X W.drew := H.grow (Below.refl _ _).drew
end
/-- the places of a row that is written may be stored into -/
theorem row_frz {W : World} {r : Row} {S g n cap : Nat} (h : r.Owned W S) (hv : r.v = .slice (some ⟨g, 0, none⟩) n cap) (j : Nat) : W.frozen? ⟨g, j, none⟩ = false := by
  obtain ⟨-, -, cs, h3⟩ := owned_block h (k := g) (by rw [hv]; rfl)
  simp [World.frozen?, h3]
theorem MadeP.lens {M : Nat} {p : Pf} {T : List Int} (h : MadeP M p T) : 2 ≤ p.ats.length ∧ p.ats.length ≤ M ∧ p.gr.length = p.ats.length ∧ T.length = p.ats.length ∧ p.n = p.ats.length := ⟨h.n.1, h.n.2, h.gl, h.tl, rfl⟩
end Go.Proofs.Ytohjinbgbfggcaa
/-
  Regions that make rows and boxes in a drawn order: each effect puts one more row or box into what is kept.
-/
namespace Go.Proofs.Ytohjinbgbfggcaa
open Go.RowKit Go.Shelf
open Lim

def onR (b : Bool) (r : Row) : List Row := if b then [r] else []
def onX (b : Bool) (p : Nat) (o : Obj) : List (Nat × Obj) := if b then [(p, o)] else []
theorem onR_no {b : Bool} (h : b = false) (r : Row) : onR b r = [] := by rw [h]; rfl
theorem onR_yes {b : Bool} (h : b = true) (r : Row) : onR b r = [r] := by rw [h]; rfl
theorem onX_no {b : Bool} (h : b = false) (p : Nat) (o : Obj) : onX b p o = [] := by rw [h]; rfl
theorem onX_yes {b : Bool} (h : b = true) (p : Nat) (o : Obj) : onX b p o = [(p, o)] := by rw [h]; rfl
section
variable {w : World} {S d c c' : Nat} {R Q : List Row} {X : List (Nat × Obj)} {W W' : World}
theorem Mem.permQ {Q' : List Row} (H : Mem w S d c R Q X W) (h : Q.Perm Q') : Mem w S d c R Q' X W :=
  ⟨H.b, H.o, H.dk, H.r, fun r hr => H.q r (h.mem_iff.2 hr), H.x, H.xr, fun p hp r hr => H.xq p hp r (h.mem_iff.2 hr), H.xx, h.pairwise H.qq (fun hab => hab.symm), fun q hq r hr => H.qr q (h.mem_iff.2 hq) r hr⟩
theorem Mem.permX {X' : List (Nat × Obj)} (H : Mem w S d c R Q X W) (h : X.Perm X') : Mem w S d c R Q X' W :=
  ⟨H.b, H.o, H.dk, H.r, H.q, fun p hp => H.x p (h.mem_iff.2 hp), fun p hp => H.xr p (h.mem_iff.2 hp), fun p hp => H.xq p (h.mem_iff.2 hp), h.pairwise H.xx (fun hab => Ne.symm hab), H.qq, H.qr⟩
theorem Mem.insQ {Q1 Q2 : List Row} (H : Mem w S d c R (Q1 ++ Q2) X W) (hb : Below W.heap.size W W') {r : Row} (hr : r.Owned W' W.heap.size) : Mem w S d c R (Q1 ++ r :: Q2) X W' :=
  (H.addQ hb hr).permQ List.perm_middle.symm
theorem Mem.insX {X1 X2 : List (Nat × Obj)} (H : Mem w S d c R Q (X1 ++ X2) W) (o : Obj) : Mem w S d c R Q (X1 ++ (W.heap.size, o) :: X2) (W.alloc o) :=
  (H.lay o).permX List.perm_middle.symm
end
theorem make_upon {F : Fence} {n : Nat} {P : Program} {Q : Exit → Act → World → Prop} {o : Oper} {a : Act} {K : Act → World → Prop} {w w' : World} {t : TypeId} {l c : Operand} {lv cv v : Value} (hop : o.op = Op.makeSlice t l c)
    (hl : a.eval l = lv) (hc : a.eval c = cv) (h : (Instr.makeSlice t lv cv).run P w = .ok v w') (hK : K (a.put o.dst v) w') : o.uponIn F n P a K Q ((execOp a.eval o).run P w) := by
  simp [execOp, hop, hl, hc, h, Result.andThen, Oper.uponIn]
  exact hK
theorem zeros_ints (n : Nat) : (madeCells (Value.int .i64 0).cells (n * 1)).toList = ints (List.replicate n 0) := by
  rw [Nat.mul_one]
  show (madeCells #[Value.int .i64 0] n).toList = _
  rw [toList_madeCells_one]
  simp [ints]
def zeros (n : Nat) : List Int := List.replicate n 0
theorem zeros_len (n : Nat) : (zeros n).length = n := List.length_replicate
/-- a list of zeros is made -/
theorem make_zeros {W : World} {i : TypeInfo} (hi : Try.prog.info? 3 = some i ∧ i.zero = some (.int .i64 0) ∧ i.size = 1 ∧ i.bytes = 8) {n : Nat} (hn : n ≤ 1000) :
    ∃ v W', (Instr.makeSlice 25 (.int .i64 (n : Int)) (.int .i64 (n : Int))).run Try.prog W = .ok v W' ∧ (rwI v n (zeros n)).Owned W' W.heap.size ∧ Below W.heap.size W W' ∧ v.oneCell' = true := by
  obtain ⟨W', h1, h2, h3⟩ := run_make_full (P := Try.prog) W W.heap.size 25 3 i (.int .i64 0) 1 Try.underlying25 hi.1 hi.2.1 hi.2.2.1 .i64 .i64 n (by rw [hi.2.2.2]; omega) (by unfold maxLen; omega) (Nat.le_refl _)
  rw [zeros_ints] at h2
  exact ⟨_, W', h1, h2, ⟨h3.os, h3.tape, h3.output, h3.size, fun k hk => h3.block k hk (fun e => by cases e)⟩, rfl⟩
end Go.Proofs.Ytohjinbgbfggcaa
