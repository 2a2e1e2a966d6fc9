/-
  Parts of the proof, in the order in which they build: PoF, PoG.
-/
import Derived.Test.YtobmhamdkngehaaA43
import Derived.Test.YtobmhamdkngehaaA42
import Derived.Test.YtobmhamdkngehaaA4
set_option linter.unusedVariables false
set_option linter.unusedSimpArgs false
/-
  Two decks: one is written, the other stays.
-/
namespace Go.Proofs.Ytobmhamdkngehaa
open Go.RowKit Go.Shelf
open Lim

set_option maxRecDepth 20000 in
set_option maxHeartbeats 1000000 in
/-- a deck of bytes, and what it is made of -/
theorem of_dk {B : Nat} {cv : Value} {l : List Int} {w : World} (hB : B ≤ w.heap.size) (h : RS B w cv l.length (u8s l)) (hu : ∀ x ∈ l, 0 ≤ x ∧ x ≤ 255) :
    Calls Try.prog 31 #[cv] w fun e w' => e = .returned (.pointer (some ⟨w.heap.size, 0, none⟩)) ∧ Dk w' w.heap.size cv l 0 9 ∧ Below w.heap.size w w' ∧ w'.heap.size = w.heap.size + 1 := by
  have hb : Below w.heap.size w (w.alloc (.cells #[cv, .int .i64 0, .int .u32 9] 121)) := (Below.refl _ w).alloc (Nat.le_refl _) _
  have HD : Hid (Dk (w.alloc (.cells #[cv, .int .i64 0, .int .u32 9] 121)) w.heap.size cv l 0 9) := Lib.hid
    ⟨⟨by simp [go_sem], by simp [go_sem], by simp [go_sem]⟩, ⟨by simp [go_sem], by simp [go_sem]⟩, (h.mono hB).below hb, hu, by omega, by omega⟩
  have HB := Lib.hid hb
  obtain ⟨a, cap, rfl, -⟩ := h
  clear hb
  go_enter Try.func31, Try.ntmps31
  go_wp2
  go_ret
  exact ⟨rfl, HD.out, HB.out, by simp⟩
theorem Dk.deck {W : World} {d : Nat} {cv : Value} {l : List Int} {k s : Int} (h : Dk W d cv l k s) {n : Nat} (hn : k ≤ n) : Deck W d n := ⟨cv, l, k, s, h, hn⟩
section
variable {w : World} {S d c c' : Nat} {R Q : List Row} {X : List (Nat × Obj)} {W W' : World}
theorem Mem.drewN (H : Mem w S d c R Q X W) (n : Nat) : Mem w S d c R Q X (W.drewN n) := H.grow (below_drewN (Below.refl _ _) n)
theorem Mem.drew (H : Mem w S d c R Q X W) : Mem w S d c R Q X W.drew := H.grow (Below.refl _ _).drew
end
/-- the places of a row that is written may be stored into -/
theorem row_frz {W : World} {r : Row} {S g n cap : Nat} (h : r.Owned W S) (hv : r.v = .slice (some ⟨g, 0, none⟩) n cap) (j : Nat) : W.frozen? ⟨g, j, none⟩ = false := by
  obtain ⟨-, -, cs, h3⟩ := owned_block h (k := g) (by rw [hv]; rfl)
  simp [World.frozen?, h3]
end Go.Proofs.Ytobmhamdkngehaa
/-
  Regions that make rows and boxes in a drawn order: each effect puts one more row or box into what is kept.
-/
namespace Go.Proofs.Ytobmhamdkngehaa
open Go.RowKit Go.Shelf
open Lim

def onR (b : Bool) (r : Row) : List Row := if b then [r] else []
def onX (b : Bool) (p : Nat) (o : Obj) : List (Nat × Obj) := if b then [(p, o)] else []
theorem onR_no {b : Bool} (h : b = false) (r : Row) : onR b r = [] := by rw [h]; rfl
theorem onR_yes {b : Bool} (h : b = true) (r : Row) : onR b r = [r] := by rw [h]; rfl
theorem onX_no {b : Bool} (h : b = false) (p : Nat) (o : Obj) : onX b p o = [] := by rw [h]; rfl
theorem onX_yes {b : Bool} (h : b = true) (p : Nat) (o : Obj) : onX b p o = [(p, o)] := by rw [h]; rfl
section
variable {w : World} {S d c c' : Nat} {R Q : List Row} {X : List (Nat × Obj)} {W W' : World}
theorem Mem.permQ {Q' : List Row} (H : Mem w S d c R Q X W) (h : Q.Perm Q') : Mem w S d c R Q' X W :=
  ⟨H.b, H.o, H.dk, H.r, fun r hr => H.q r (h.mem_iff.2 hr), H.x, H.xr, fun p hp r hr => H.xq p hp r (h.mem_iff.2 hr), H.xx, h.pairwise H.qq (fun hab => hab.symm), fun q hq r hr => H.qr q (h.mem_iff.2 hq) r hr⟩
theorem Mem.permX {X' : List (Nat × Obj)} (H : Mem w S d c R Q X W) (h : X.Perm X') : Mem w S d c R Q X' W :=
  ⟨H.b, H.o, H.dk, H.r, H.q, fun p hp => H.x p (h.mem_iff.2 hp), fun p hp => H.xr p (h.mem_iff.2 hp), fun p hp => H.xq p (h.mem_iff.2 hp), h.pairwise H.xx (fun hab => Ne.symm hab), H.qq, H.qr⟩
theorem Mem.insQ {Q1 Q2 : List Row} (H : Mem w S d c R (Q1 ++ Q2) X W) (hb : Below W.heap.size W W') {r : Row} (hr : r.Owned W' W.heap.size) : Mem w S d c R (Q1 ++ r :: Q2) X W' :=
  (H.addQ hb hr).permQ List.perm_middle.symm
theorem Mem.insX {X1 X2 : List (Nat × Obj)} (H : Mem w S d c R Q (X1 ++ X2) W) (o : Obj) : Mem w S d c R Q (X1 ++ (W.heap.size, o) :: X2) (W.alloc o) :=
  (H.lay o).permX List.perm_middle.symm
end
end Go.Proofs.Ytobmhamdkngehaa
