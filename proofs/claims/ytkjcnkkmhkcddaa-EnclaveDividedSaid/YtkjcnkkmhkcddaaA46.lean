/-
  Parts of the proof, in the order in which they build: EwT, EwU, EwV.
-/
import Derived.Deep.CutRange
import Derived.Test.YtkjcnkkmhkcddaaA45
import Derived.Test.YtkjcnkkmhkcddaaA15
set_option linter.unusedVariables false
set_option linter.unusedSimpArgs false
/-
  The reference's regions: the contract of its function Regions.
-/
namespace Go.Proofs.Ytkjcnkkmhkcddaa
open Go.RowKit Go.Shelf
open Lim

attribute [local go_sem] Oper.semAt_some

/-- the map in block q and a row in block g -/
structure RrM (w : World) (q g n wd : Nat) (oa : Option Addr) (oc : Nat) (R : Nat → Int) (W : World) : Prop where
 be : Below w.heap.size w W
 c0 : W.cell? ⟨q, 0, none⟩ = some (.int .i64 wd)
 c1 : W.cell? ⟨q, 1, none⟩ = some (.slice oa n oc)
 r : RowC W g n R
 lt : w.heap.size ≤ q ∧ w.heap.size ≤ g ∧ q ≠ g
section
variable {w W W' : World} {q g n wd : Nat} {oa : Option Addr} {oc : Nat} {R : Nat → Int}
theorem RrM.on (h : RrM w q g n wd oa oc R W) (hb : Below W.heap.size W W') : RrM w q g n wd oa oc R W' := ⟨h.be.trans (hb.mono h.be.size), hb.on h.c0, hb.on h.c1, h.r.grow hb, h.lt⟩
theorem RrM.put (h : RrM w q g n wd oa oc R W) {k : Nat} (hk : k < n) (v : Int) : RrM w q g n wd oa oc (upd R k v) (W.setCell ⟨g, k, none⟩ (.int .i64 v)) :=
 have hs := Sep.set W g k (.int .i64 v)
 ⟨h.be.setCell (p := ⟨g, k, none⟩) h.lt.2.1 _, hs.cell h.c0 h.lt.2.2, hs.cell h.c1 h.lt.2.2, h.r.put hk v, h.lt⟩
end
/-- the sum of the first n numbers -/
def sumF (f : Nat → Nat) : Nat → Nat
 | 0 => 0
 | n + 1 => sumF f n + f n
theorem sumF_upd {f : Nat → Nat} {k v : Nat} : ∀ n, (n ≤ k → sumF (fun x => if x = k then v else f x) n = sumF f n) ∧ (k < n → sumF (fun x => if x = k then v else f x) n + f k = sumF f n + v)
 | 0 => ⟨fun _ => rfl, fun h => by omega⟩
 | n + 1 => by
  obtain ⟨h1, h2⟩ := sumF_upd (f := f) (k := k) (v := v) n
  refine ⟨fun h => ?_, fun h => ?_⟩
  ·rw [sumF, sumF, h1 (by omega), if_neg (by omega)]
  ·rw [sumF, sumF]
   by_cases e : n = k
   ·subst e; rw [h1 (Nat.le_refl _), if_pos rfl]; omega
   ·rw [if_neg e]; have := h2 (by omega); omega
/-- .. as memory has them -/
def cellN : Option Value → Nat
 | some (.int _ x) => x.toNat
 | _ => 0
def sumC (W : World) (g : Nat) : Nat → Nat
 | 0 => 0
 | n + 1 => sumC W g n + cellN (W.cell? ⟨g, n, none⟩)
theorem RowC.sum {W : World} {g n : Nat} {f : Nat → Nat} (h : RowC W g n (fun j => (f j : Int))) : ∀ t, t ≤ n → sumC W g t = sumF f t
 | 0, _ => rfl
 | t + 1, ht => by rw [sumC, sumF, h.sum t (by omega), h.c t (by omega)]; rfl
/-- while a pass looks at pair (a, b) -/
def PassR (m : Mp) (f0 f : Nat → Nat) (z : Bool) (a b : Nat) : Prop :=
 (z = false → f = f0 ∧ ∀ x y, (x < a ∨ x = a ∧ y < b) → x < m.n → y < m.n → nb m x y → m.own x = m.own y → ¬ f y < f x) ∧ (z = true → sumF f m.n < sumF f0 m.n)
theorem PassR.set {m : Mp} {f0 f : Nat → Nat} {z : Bool} {a b : Nat} (h : PassR m f0 f z a b) (ha : a < m.n) (hlt : f b < f a) : PassR m f0 (fun x => if x = a then f b else f x) true a (b + 1) := by
 refine ⟨fun e => (by cases e), fun _ => ?_⟩
 have h1 := (sumF_upd (f := f) (k := a) (v := f b) m.n).2 ha
 have h2 : sumF f m.n ≤ sumF f0 m.n := by
  cases z with
  | false => rw [(h.1 rfl).1]; exact Nat.le_refl _
  | true => exact Nat.le_of_lt (h.2 rfl)
 omega
theorem PassR.row {m : Mp} {f0 f : Nat → Nat} {z : Bool} {a : Nat} (h : PassR m f0 f z a m.n) : PassR m f0 f z (a + 1) 0 :=
 ⟨fun hz => ⟨(h.1 hz).1, fun x y hxy hx hy => (h.1 hz).2 x y (by omega) hx hy⟩, h.2⟩
theorem PassR.start (m : Mp) (f : Nat → Nat) : PassR m f f false 0 0 := ⟨fun _ => ⟨rfl, fun x y h => by omega⟩, fun e => by cases e⟩
end Go.Proofs.Ytkjcnkkmhkcddaa
/-
  The reference's question whether a region lies within another one: the contracts of its functions within and owner.
-/
namespace Go.Proofs.Ytkjcnkkmhkcddaa
open Go.RowKit Go.Shelf
open Lim

attribute [local go_sem] Oper.semAt_some

/-- n answers in a block of their own, which are written -/
structure RowB (W : World) (g n : Nat) (B : Nat → Bool) : Prop where
 c : ∀ j, j < n → W.cell? ⟨g, j, none⟩ = some (.bool (B j))
 f : ∀ j, j < n → W.frozen? ⟨g, j, none⟩ = false
 lt : g < W.heap.size
section
variable {W W' : World} {g n : Nat} {B : Nat → Bool}
theorem RowB.sep {T : Nat → Prop} (h : RowB W g n B) (hs : Sep T W W') (hT : ¬ T g) : RowB W' g n B := ⟨fun j hj => hs.cell (h.c j hj) hT, fun j hj => hs.frozen (h.c j hj) hT (h.f j hj), Nat.lt_of_lt_of_le h.lt hs.size⟩
theorem RowB.grow (h : RowB W g n B) (hb : Below W.heap.size W W') : RowB W' g n B := h.sep (T := fun _ => False) (Sep.of_below hb) id
theorem RowB.put (h : RowB W g n B) {k : Nat} (hk : k < n) (v : Bool) : RowB (W.setCell ⟨g, k, none⟩ (.bool v)) g n (fun x => if x = k then v else B x) := by
 refine ⟨fun j hj => ?_, fun j hj => by rw [World.frozen?_setCell]; exact h.f j hj, by have := h.lt; simpa [World.setCell] using this⟩
 by_cases e : j = k
 ·subst e; rw [setCell_same _ _ (h.c j hj), if_pos rfl]
 ·rw [setCell_off _ _ (fun e' => e e'.symm), if_neg e]; exact h.c j hj
end
def cellB : Option Value → Nat
 | some (.bool true) => 0
 | _ => 1
def sumB (W : World) (g : Nat) : Nat → Nat
 | 0 => 0
 | n + 1 => sumB W g n + cellB (W.cell? ⟨g, n, none⟩)
def unB (B : Nat → Bool) (n : Nat) : Nat := sumF (fun p => if B p = true then 0 else 1) n
theorem RowB.sum {W : World} {g n : Nat} {B : Nat → Bool} (h : RowB W g n B) : ∀ t, t ≤ n → sumB W g t = unB B t
 | 0, _ => rfl
 | t + 1, ht => by
  rw [sumB, h.sum t (by omega), h.c t (by omega)]
  unfold unB
  rw [sumF]
  cases B t <;> rfl
theorem unB_set {B : Nat → Bool} {b n : Nat} (hb : b < n) (hB : B b = false) : unB (fun x => if x = b then true else B x) n < unB B n := by
 have h := (sumF_upd (f := fun p => if B p = true then 0 else 1) (k := b) (v := 0) n).2 hb
 have e : (fun p => if (if p = b then true else B p) = true then 0 else 1) = (fun x => if x = b then 0 else if B x = true then 0 else 1) := by
  funext p
  by_cases e : p = b
  ·simp [e]
  ·simp [e]
 unfold unB
 rw [e]
 simp only [hB] at h
 simp at h
 omega
/-- the map in block q and a row of answers in block g -/
structure WiM (w : World) (q g n wd : Nat) (oa : Option Addr) (oc : Nat) (B : Nat → Bool) (W : World) : Prop where
 be : Below w.heap.size w W
 c0 : W.cell? ⟨q, 0, none⟩ = some (.int .i64 wd)
 c1 : W.cell? ⟨q, 1, none⟩ = some (.slice oa n oc)
 r : RowB W g n B
 lt : w.heap.size ≤ q ∧ w.heap.size ≤ g ∧ q ≠ g
section
variable {w W W' : World} {q g n wd : Nat} {oa : Option Addr} {oc : Nat} {B : Nat → Bool}
theorem WiM.on (h : WiM w q g n wd oa oc B W) (hb : Below W.heap.size W W') : WiM w q g n wd oa oc B W' := ⟨h.be.trans (hb.mono h.be.size), hb.on h.c0, hb.on h.c1, h.r.grow hb, h.lt⟩
theorem WiM.put (h : WiM w q g n wd oa oc B W) {k : Nat} (hk : k < n) (v : Bool) : WiM w q g n wd oa oc (fun x => if x = k then v else B x) (W.setCell ⟨g, k, none⟩ (.bool v)) :=
 have hs := Sep.set W g k (.bool v)
 ⟨h.be.setCell (p := ⟨g, k, none⟩) h.lt.2.1 _, hs.cell h.c0 h.lt.2.2, hs.cell h.c1 h.lt.2.2, h.r.put hk v, h.lt⟩
end
/-- while a pass looks at pair (a, b) -/
def PassB (m : Mp) (r : Nat → Nat) (j : Nat) (B0 B : Nat → Bool) (z : Bool) (a b : Nat) : Prop :=
 (z = false → B = B0 ∧ ∀ x y, (x < a ∨ x = a ∧ y < b) → x < m.n → y < m.n → B x = true → nb m x y → r y ≠ j → B y = true) ∧ (z = true → unB B m.n < unB B0 m.n)
section
variable {m : Mp} {r : Nat → Nat} {j : Nat} {B0 B : Nat → Bool} {z : Bool} {a b : Nat}
theorem PassB.set (h : PassB m r j B0 B z a b) (hb : b < m.n) (hB : B b = false) : PassB m r j B0 (fun x => if x = b then true else B x) true a (b + 1) := by
 refine ⟨fun e => (by cases e), fun _ => ?_⟩
 have h1 := unB_set hb hB
 have h2 : unB B m.n ≤ unB B0 m.n := by
  cases z with
  | false => rw [(h.1 rfl).1]; exact Nat.le_refl _
  | true => exact Nat.le_of_lt (h.2 rfl)
 omega
theorem PassB.row (h : PassB m r j B0 B z a m.n) : PassB m r j B0 B z (a + 1) 0 :=
 ⟨fun hz => ⟨(h.1 hz).1, fun x y hxy hx hy => (h.1 hz).2 x y (by omega) hx hy⟩, h.2⟩
theorem PassB.start (m : Mp) (r : Nat → Nat) (j : Nat) (B : Nat → Bool) : PassB m r j B B false 0 0 := ⟨fun _ => ⟨rfl, fun x y h => by omega⟩, fun e => by cases e⟩
end
end Go.Proofs.Ytkjcnkkmhkcddaa
/-
  The reference's answers on ways: the contract of its function Out.
-/
namespace Go.Proofs.Ytkjcnkkmhkcddaa
open Go.RowKit Go.Shelf
open Lim

attribute [local go_sem] Oper.semAt_some

theorem IsReg.le {m : Mp} {r : Nat → Nat} (h : IsReg m r) : ∀ p, p < m.n → r p ≤ p := by
  intro p
  induction p using Nat.strongRecOn with
  | ind p ih =>
    intro hp
    by_cases e : r p = 0
    · omega
    · obtain ⟨q, h1, h2⟩ := h.grow p hp (r p - 1) (by omega)
      have := ih q h1 (by omega)
      omega
/-- what the reference's Out answers -/
def ROuAns (wd : Int) (os : List Int) (i j : Int) (w : World) (e : Ending) (w' : World) : Prop :=
  Below w.heap.size w w' ∧ ((errE wd os ≠ 0 ∧ e = .returned (.int .i64 (errE wd os))) ∨
    (errE wd os = 0 ∧ ∃ (r : Nat → Nat) (k : Nat), IsReg ⟨wd.toNat, os⟩ r ∧ IsMany ⟨wd.toNat, os⟩ r k ∧ ((askE i j k ≠ 0 ∧ e = .returned (.int .i64 2)) ∨
      (askE i j k = 0 ∧ OutW ⟨wd.toNat, os⟩ r i.toNat j.toNat ∧ e = .returned (.int .i64 0)) ∨ (askE i j k = 0 ∧ ¬ OutW ⟨wd.toNat, os⟩ r i.toNat j.toNat ∧ e = .returned (.int .i64 7)))))
end Go.Proofs.Ytkjcnkkmhkcddaa
