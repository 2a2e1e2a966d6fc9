/-
  Parts of the proof, in the order in which they build: TurnA, TurnB, TurnC.
-/
import Derived.Laws.OwnMore
import Derived.Test.YtdgibmgifgdpbaaH16
import Derived.Test.YtdgibmgifgdpbaaH8
import Derived.Test.YtdgibmgifgdpbaaH3
import Derived.Test.YtdgibmgifgdpbaaH13
set_option linter.unusedVariables false
set_option linter.unusedSimpArgs false
/-
  RidgeTurned: three clones and three boxes, laid in a drawn order.
-/
namespace Go.Proofs.Ytdgibmgifgdpbaa
open Go.RowKit Go.Shelf
open Lim

/-- a clone whose blocks lie between lo and hi -/
def Cl (wd : Int) (hs : List (Int × Int)) (ss : List Int) (x : Value) (lo hi : Nat) (W : World) : Prop :=
  ∃ h hc s sc : Nat, x = .agg #[.int .i64 wd, .slice (some ⟨h, 0, none⟩) hs.length hc, .slice (some ⟨s, 0, none⟩) ss.length sc] ∧ (lo ≤ h ∧ h < hi ∧ lo ≤ s ∧ s < hi) ∧
    W.ownsRow lo 54 2 (.slice (some ⟨h, 0, none⟩) hs.length hc) hs.length (spans hs) ∧ W.ownsRow lo 3 1 (.slice (some ⟨s, 0, none⟩) ss.length sc) ss.length (ints ss)
theorem Cl.grow {wd : Int} {hs : List (Int × Int)} {ss : List Int} {x : Value} {lo hi : Nat} {W W' : World} (h : Cl wd hs ss x lo hi W) (hb : Below W.heap.size W W') : Cl wd hs ss x lo hi W' :=
  let ⟨a, b, c, d, e, f, g, k⟩ := h
  ⟨a, b, c, d, e, f, owns_below g hb, owns_below k hb⟩
theorem Cl.new {wd : Int} {hs : List (Int × Int)} {ss : List Int} {hv sv : Value} {lo : Nat} {W : World} (h0 : 0 < hs.length) (s0 : 0 < ss.length) (o1 : W.ownsRow lo 54 2 hv hs.length (spans hs)) (o2 : W.ownsRow lo 3 1 sv ss.length (ints ss)) : Cl wd hs ss (.agg #[.int .i64 wd, hv, sv]) lo W.heap.size W := by
  obtain ⟨h, hc, rfl⟩ : ∃ g cap, hv = .slice (some ⟨g, 0, none⟩) hs.length cap := form_pos (r := ⟨54, 2, hv, hs.length, spans hs⟩) o1 h0
  obtain ⟨s, sc, rfl⟩ : ∃ g cap, sv = .slice (some ⟨g, 0, none⟩) ss.length cap := form_pos (r := ⟨3, 1, sv, ss.length, ints ss⟩) o2 s0
  exact ⟨h, hc, s, sc, rfl, ⟨(o1.lt h rfl).1, (o1.lt h rfl).2, (o2.lt s rfl).1, (o2.lt s rfl).2⟩, o1, o2⟩
/-- a box of a ground is written: clones are kept -/
theorem Cl.box {wd : Int} {hs : List (Int × Int)} {ss : List Int} {x : Value} {lo hi p : Nat} {cs : Array Value} {W : World} (h : Cl wd hs ss x lo hi W) (hp : W.heap[p]? = some (.cells cs 25 (0, 0))) (a b c : Value) : Cl wd hs ss x lo hi (((W.setCell ⟨p, 0, none⟩ a).setCell ⟨p, 1, none⟩ b).setCell ⟨p, 2, none⟩ c) := by
  obtain ⟨h, hc, s, sc, e, f, g, k⟩ := h
  have off : ∀ r, r ≠ p → (((W.setCell ⟨p, 0, none⟩ a).setCell ⟨p, 1, none⟩ b).setCell ⟨p, 2, none⟩ c).heap[r]? = W.heap[r]? := fun r hr => by
    rw [Below.heap_setCell _ _ _ r hr, Below.heap_setCell _ _ _ r hr, Below.heap_setCell _ _ _ r hr]
  refine ⟨h, hc, s, sc, e, f, owned_keep (r := ⟨54, 2, .slice (some ⟨h, 0, none⟩) hs.length hc, hs.length, spans hs⟩) g (fun r hr => off r ?_), owned_keep (r := ⟨3, 1, .slice (some ⟨s, 0, none⟩) ss.length sc, ss.length, ints ss⟩) k (fun r hr => off r ?_)⟩
  · rintro rfl
    obtain ⟨-, -, cs', hc'⟩ := owned_block (r := ⟨54, 2, .slice (some ⟨h, 0, none⟩) hs.length hc, hs.length, spans hs⟩) g hr
    have hc' : W.heap[r]? = some (.cells cs' 54 (0, 0)) := hc'
    rw [hp] at hc'
    have : (25 : TypeId) = 54 := (Obj.cells.inj (Option.some.inj hc')).2.1
    exact absurd this (by decide)
  · rintro rfl
    obtain ⟨-, -, cs', hc'⟩ := owned_block (r := ⟨3, 1, .slice (some ⟨s, 0, none⟩) ss.length sc, ss.length, ints ss⟩) k hr
    have hc' : W.heap[r]? = some (.cells cs' 3 (0, 0)) := hc'
    rw [hp] at hc'
    have : (25 : TypeId) = 3 := (Obj.cells.inj (Option.some.inj hc')).2.1
    exact absurd this (by decide)
/-- a box: nothing yet, or what a clone is -/
def boxObj (full : Bool) (x : Value) : Obj := .cells (if full then x.cells else #[.int .i64 0, .slice none 0 0, .slice none 0 0]) 25 (0, 0)
/-- memory while the three are laid -/
structure Tu3 (w0 : World) (wd : Int) (hs : List (Int × Int)) (ss : List Int) (done : Nat → Bool) (x45 x47 x49 x6 x7 x8 : Value) (W : World) : Prop where
  b : Below w0.heap.size w0 W
  c : done 1 = true → ∃ N, N ≤ W.heap.size ∧ Cl wd hs ss x45 w0.heap.size N W ∧ (done 3 = true → ∃ M, M ≤ W.heap.size ∧ N ≤ M ∧ Cl wd hs ss x47 N M W ∧ (done 5 = true → Cl wd hs ss x49 M W.heap.size W))
  w3 : done 3 = true → done 1 = true
  w5 : done 5 = true → done 3 = true
  d6 : done 6 = true → ∃ p, x6 = .pointer (some ⟨p, 0, none⟩) ∧ w0.heap.size ≤ p ∧ W.heap[p]? = some (boxObj (done 9) x45)
  d7 : done 7 = true → ∃ p, x7 = .pointer (some ⟨p, 0, none⟩) ∧ w0.heap.size ≤ p ∧ W.heap[p]? = some (boxObj (done 10) x47)
  d8 : done 8 = true → ∃ p, x8 = .pointer (some ⟨p, 0, none⟩) ∧ w0.heap.size ≤ p ∧ W.heap[p]? = some (boxObj (done 11) x49)
  n67 : done 6 = true → done 7 = true → x6 ≠ x7
  n68 : done 6 = true → done 8 = true → x6 ≠ x8
  n78 : done 7 = true → done 8 = true → x7 ≠ x8
  w9 : done 9 = true → done 1 = true ∧ done 6 = true
  w10 : done 10 = true → done 3 = true ∧ done 7 = true
  w11 : done 11 = true → done 5 = true ∧ done 8 = true
theorem Tu3.grow {w0 : World} {wd : Int} {hs : List (Int × Int)} {ss : List Int} {done : Nat → Bool} {x45 x47 x49 x6 x7 x8 : Value} {W : World} (H : Tu3 w0 wd hs ss done x45 x47 x49 x6 x7 x8 W) {W' : World} (hb : Below W.heap.size W W') : Tu3 w0 wd hs ss done x45 x47 x49 x6 x7 x8 W' :=
  ⟨H.b.trans (hb.mono H.b.size), fun h => (by
    obtain ⟨N, h1, h2, h3⟩ := H.c h
    refine ⟨N, Nat.le_trans h1 hb.size, h2.grow hb, fun h => ?_⟩
    obtain ⟨M, h4, h5, h6, h7⟩ := h3 h
    refine ⟨M, Nat.le_trans h4 hb.size, h5, h6.grow hb, fun h => ?_⟩
    obtain ⟨a, b, c, d, e, f, g, k⟩ := (h7 h).grow hb
    exact ⟨a, b, c, d, e, ⟨f.1, Nat.lt_of_lt_of_le f.2.1 hb.size, f.2.2.1, Nat.lt_of_lt_of_le f.2.2.2 hb.size⟩, g, k⟩), H.w3, H.w5,
   fun h => let ⟨p, h1, h2, h3⟩ := H.d6 h; ⟨p, h1, h2, heap_grow h3 hb⟩, fun h => let ⟨p, h1, h2, h3⟩ := H.d7 h; ⟨p, h1, h2, heap_grow h3 hb⟩, fun h => let ⟨p, h1, h2, h3⟩ := H.d8 h; ⟨p, h1, h2, heap_grow h3 hb⟩,
   H.n67, H.n68, H.n78, H.w9, H.w10, H.w11⟩
theorem Tu3.st1 {w0 : World} {wd : Int} {hs : List (Int × Int)} {ss : List Int} {done : Nat → Bool} {x45 x47 x49 x6 x7 x8 : Value} {W : World} (H : Tu3 w0 wd hs ss done x45 x47 x49 x6 x7 x8 W) (hd : done 1 = false) {v : Value} {W' : World} (hb : Below W.heap.size W W') (hc : Cl wd hs ss v W.heap.size W'.heap.size W') :
    Tu3 w0 wd hs ss (fun j => if j = 1 then true else done j) (v) x47 x49 x6 x7 x8 W' := by
  have f3 : done 3 = false := by
    cases e : done 3 with
    | false => rfl
    | true => have h := (H.w3 e); rw [hd] at h; cases h
  have f9 : done 9 = false := by
    cases e : done 9 with
    | false => rfl
    | true => have h := (H.w9 e).1; rw [hd] at h; cases h
  have G := H.grow hb
  refine ⟨G.b, fun _ => ⟨W'.heap.size, Nat.le_refl _, ?_, fun h => absurd h (by simp [f3])⟩, fun h => by simp, fun h => by simpa using G.w5 (by simpa using h), fun h => ?_, fun h => by simpa using G.d7 (by simpa using h), fun h => by simpa using G.d8 (by simpa using h), fun h k => G.n67 (by simpa using h) (by simpa using k), fun h k => G.n68 (by simpa using h) (by simpa using k), fun h k => G.n78 (by simpa using h) (by simpa using k), fun h => absurd h (by simp [f9]), fun h => by simpa using G.w10 (by simpa using h), fun h => by simpa using G.w11 (by simpa using h)⟩
  · obtain ⟨a, b, c, d, e, f, g, k⟩ := hc
    exact ⟨a, b, c, d, e, ⟨Nat.le_trans H.b.size f.1, f.2.1, Nat.le_trans H.b.size f.2.2.1, f.2.2.2⟩, owns_mono g H.b.size, owns_mono k H.b.size⟩
  · obtain ⟨p, h1, h2, h3⟩ := G.d6 (by simpa using h)
    exact ⟨p, h1, h2, by rw [h3]; simp [boxObj, f9]⟩
theorem Tu3.st3 {w0 : World} {wd : Int} {hs : List (Int × Int)} {ss : List Int} {done : Nat → Bool} {x45 x47 x49 x6 x7 x8 : Value} {W : World} (H : Tu3 w0 wd hs ss done x45 x47 x49 x6 x7 x8 W) (hd : done 3 = false) (h1 : done 1 = true) {v : Value} {W' : World} (hb : Below W.heap.size W W') (hc : Cl wd hs ss v W.heap.size W'.heap.size W') :
    Tu3 w0 wd hs ss (fun j => if j = 3 then true else done j) x45 (v) x49 x6 x7 x8 W' := by
  have f5 : done 5 = false := by
    cases e : done 5 with
    | false => rfl
    | true => have h := (H.w5 e); rw [hd] at h; cases h
  have f10 : done 10 = false := by
    cases e : done 10 with
    | false => rfl
    | true => have h := (H.w10 e).1; rw [hd] at h; cases h
  have G := H.grow hb
  obtain ⟨N, k1, k2, -⟩ := H.c h1
  refine ⟨G.b, fun _ => ⟨N, Nat.le_trans k1 hb.size, k2.grow hb, fun _ => ⟨W'.heap.size, Nat.le_refl _, Nat.le_trans k1 hb.size, ?_, fun h => absurd h (by simp [f5])⟩⟩, fun h => by simpa using h1, fun h => by simp, fun h => by simpa using G.d6 (by simpa using h), fun h => ?_, fun h => by simpa using G.d8 (by simpa using h), fun h k => G.n67 (by simpa using h) (by simpa using k), fun h k => G.n68 (by simpa using h) (by simpa using k), fun h k => G.n78 (by simpa using h) (by simpa using k), fun h => by simpa using G.w9 (by simpa using h), fun h => absurd h (by simp [f10]), fun h => by simpa using G.w11 (by simpa using h)⟩
  · obtain ⟨a, b, c, d, e, f, g, k⟩ := hc
    exact ⟨a, b, c, d, e, ⟨Nat.le_trans k1 f.1, f.2.1, Nat.le_trans k1 f.2.2.1, f.2.2.2⟩, owns_mono g k1, owns_mono k k1⟩
  · obtain ⟨p, h1, h2, h3⟩ := G.d7 (by simpa using h)
    exact ⟨p, h1, h2, by rw [h3]; simp [boxObj, f10]⟩
theorem Tu3.st5 {w0 : World} {wd : Int} {hs : List (Int × Int)} {ss : List Int} {done : Nat → Bool} {x45 x47 x49 x6 x7 x8 : Value} {W : World} (H : Tu3 w0 wd hs ss done x45 x47 x49 x6 x7 x8 W) (hd : done 5 = false) (h3 : done 3 = true) {v : Value} {W' : World} (hb : Below W.heap.size W W') (hc : Cl wd hs ss v W.heap.size W'.heap.size W') :
    Tu3 w0 wd hs ss (fun j => if j = 5 then true else done j) x45 x47 (v) x6 x7 x8 W' := by
  have f11 : done 11 = false := by
    cases e : done 11 with
    | false => rfl
    | true => have h := (H.w11 e).1; rw [hd] at h; cases h
  have G := H.grow hb
  obtain ⟨N, k1, k2, k3⟩ := H.c (H.w3 h3)
  obtain ⟨M, k4, k5, k6, -⟩ := k3 h3
  refine ⟨G.b, fun _ => ⟨N, Nat.le_trans k1 hb.size, k2.grow hb, fun _ => ⟨M, Nat.le_trans k4 hb.size, k5, k6.grow hb, fun _ => ?_⟩⟩, fun h => by simpa using G.w3 (by simpa using h), fun h => by simpa using h3, fun h => by simpa using G.d6 (by simpa using h), fun h => by simpa using G.d7 (by simpa using h), fun h => ?_, fun h k => G.n67 (by simpa using h) (by simpa using k), fun h k => G.n68 (by simpa using h) (by simpa using k), fun h k => G.n78 (by simpa using h) (by simpa using k), fun h => by simpa using G.w9 (by simpa using h), fun h => by simpa using G.w10 (by simpa using h), fun h => absurd h (by simp [f11])⟩
  · obtain ⟨a, b, c, d, e, f, g, k⟩ := hc
    exact ⟨a, b, c, d, e, ⟨Nat.le_trans k4 f.1, f.2.1, Nat.le_trans k4 f.2.2.1, f.2.2.2⟩, owns_mono g k4, owns_mono k k4⟩
  · obtain ⟨p, h1, h2, h3⟩ := G.d8 (by simpa using h)
    exact ⟨p, h1, h2, by rw [h3]; simp [boxObj, f11]⟩
theorem Tu3.st6 {w0 : World} {wd : Int} {hs : List (Int × Int)} {ss : List Int} {done : Nat → Bool} {x45 x47 x49 x6 x7 x8 : Value} {W : World} (H : Tu3 w0 wd hs ss done x45 x47 x49 x6 x7 x8 W) (hd : done 6 = false) :
    Tu3 w0 wd hs ss (fun j => if j = 6 then true else done j) x45 x47 x49 (.pointer (some ⟨W.heap.size, 0, none⟩)) x7 x8 (W.alloc (.cells #[.int .i64 0, .slice none 0 0, .slice none 0 0] 25)) := by
  have f9 : done 9 = false := by
    cases e : done 9 with
    | false => rfl
    | true => have h := (H.w9 e).2; rw [hd] at h; cases h
  have hb : Below W.heap.size W (W.alloc (.cells #[.int .i64 0, .slice none 0 0, .slice none 0 0] 25)) := (Below.refl _ W).alloc (Nat.le_refl _) _
  have G := H.grow hb
  exact ⟨G.b, fun h => by simpa using G.c (by simpa using h), fun h => by simpa using G.w3 (by simpa using h), fun h => by simpa using G.w5 (by simpa using h), fun _ => ⟨_, rfl, H.b.size, by rw [if_neg (by decide), f9]; exact heap_alloc_new W _⟩, fun h => (let ⟨p, h1, h2, h3⟩ := G.d7 (by simpa using h); ⟨p, h1, h2, by rw [h3]; simp⟩), fun h => (let ⟨p, h1, h2, h3⟩ := G.d8 (by simpa using h); ⟨p, h1, h2, by rw [h3]; simp⟩), fun h k e => (by obtain ⟨p, g1, g2, g3⟩ := H.d7 (by simpa using k); rw [g1] at e; have e2 : W.heap.size = p := (by simpa using e); have := (Array.getElem?_eq_some_iff.1 g3).1; omega), fun h k e => (by obtain ⟨p, g1, g2, g3⟩ := H.d8 (by simpa using k); rw [g1] at e; have e2 : W.heap.size = p := (by simpa using e); have := (Array.getElem?_eq_some_iff.1 g3).1; omega), fun h k => G.n78 (by simpa using h) (by simpa using k), fun h => by exact absurd h (by simp [f9]), fun h => by simpa using G.w10 (by simpa using h), fun h => by simpa using G.w11 (by simpa using h)⟩
theorem Tu3.st7 {w0 : World} {wd : Int} {hs : List (Int × Int)} {ss : List Int} {done : Nat → Bool} {x45 x47 x49 x6 x7 x8 : Value} {W : World} (H : Tu3 w0 wd hs ss done x45 x47 x49 x6 x7 x8 W) (hd : done 7 = false) :
    Tu3 w0 wd hs ss (fun j => if j = 7 then true else done j) x45 x47 x49 x6 (.pointer (some ⟨W.heap.size, 0, none⟩)) x8 (W.alloc (.cells #[.int .i64 0, .slice none 0 0, .slice none 0 0] 25)) := by
  have f10 : done 10 = false := by
    cases e : done 10 with
    | false => rfl
    | true => have h := (H.w10 e).2; rw [hd] at h; cases h
  have hb : Below W.heap.size W (W.alloc (.cells #[.int .i64 0, .slice none 0 0, .slice none 0 0] 25)) := (Below.refl _ W).alloc (Nat.le_refl _) _
  have G := H.grow hb
  exact ⟨G.b, fun h => by simpa using G.c (by simpa using h), fun h => by simpa using G.w3 (by simpa using h), fun h => by simpa using G.w5 (by simpa using h), fun h => (let ⟨p, h1, h2, h3⟩ := G.d6 (by simpa using h); ⟨p, h1, h2, by rw [h3]; simp⟩), fun _ => ⟨_, rfl, H.b.size, by rw [if_neg (by decide), f10]; exact heap_alloc_new W _⟩, fun h => (let ⟨p, h1, h2, h3⟩ := G.d8 (by simpa using h); ⟨p, h1, h2, by rw [h3]; simp⟩), fun h k e => (by obtain ⟨p, g1, g2, g3⟩ := H.d6 (by simpa using h); rw [g1] at e; have e2 : p = W.heap.size := (by simpa using e); have := (Array.getElem?_eq_some_iff.1 g3).1; omega), fun h k => G.n68 (by simpa using h) (by simpa using k), fun h k e => (by obtain ⟨p, g1, g2, g3⟩ := H.d8 (by simpa using k); rw [g1] at e; have e2 : W.heap.size = p := (by simpa using e); have := (Array.getElem?_eq_some_iff.1 g3).1; omega), fun h => by simpa using G.w9 (by simpa using h), fun h => by exact absurd h (by simp [f10]), fun h => by simpa using G.w11 (by simpa using h)⟩
theorem Tu3.st8 {w0 : World} {wd : Int} {hs : List (Int × Int)} {ss : List Int} {done : Nat → Bool} {x45 x47 x49 x6 x7 x8 : Value} {W : World} (H : Tu3 w0 wd hs ss done x45 x47 x49 x6 x7 x8 W) (hd : done 8 = false) :
    Tu3 w0 wd hs ss (fun j => if j = 8 then true else done j) x45 x47 x49 x6 x7 (.pointer (some ⟨W.heap.size, 0, none⟩)) (W.alloc (.cells #[.int .i64 0, .slice none 0 0, .slice none 0 0] 25)) := by
  have f11 : done 11 = false := by
    cases e : done 11 with
    | false => rfl
    | true => have h := (H.w11 e).2; rw [hd] at h; cases h
  have hb : Below W.heap.size W (W.alloc (.cells #[.int .i64 0, .slice none 0 0, .slice none 0 0] 25)) := (Below.refl _ W).alloc (Nat.le_refl _) _
  have G := H.grow hb
  exact ⟨G.b, fun h => by simpa using G.c (by simpa using h), fun h => by simpa using G.w3 (by simpa using h), fun h => by simpa using G.w5 (by simpa using h), fun h => (let ⟨p, h1, h2, h3⟩ := G.d6 (by simpa using h); ⟨p, h1, h2, by rw [h3]; simp⟩), fun h => (let ⟨p, h1, h2, h3⟩ := G.d7 (by simpa using h); ⟨p, h1, h2, by rw [h3]; simp⟩), fun _ => ⟨_, rfl, H.b.size, by rw [if_neg (by decide), f11]; exact heap_alloc_new W _⟩, fun h k => G.n67 (by simpa using h) (by simpa using k), fun h k e => (by obtain ⟨p, g1, g2, g3⟩ := H.d6 (by simpa using h); rw [g1] at e; have e2 : p = W.heap.size := (by simpa using e); have := (Array.getElem?_eq_some_iff.1 g3).1; omega), fun h k e => (by obtain ⟨p, g1, g2, g3⟩ := H.d7 (by simpa using h); rw [g1] at e; have e2 : p = W.heap.size := (by simpa using e); have := (Array.getElem?_eq_some_iff.1 g3).1; omega), fun h => by simpa using G.w9 (by simpa using h), fun h => by simpa using G.w10 (by simpa using h), fun h => by exact absurd h (by simp [f11])⟩
theorem Tu3.st9 {w0 : World} {wd : Int} {hs : List (Int × Int)} {ss : List Int} {done : Nat → Bool} {x45 x47 x49 x7 x8 : Value} {W : World} {p : Nat} (H : Tu3 w0 wd hs ss done x45 x47 x49 (.pointer (some ⟨p, 0, none⟩)) x7 x8 W) (hd : done 9 = false) (hbx : done 6 = true) (hcl : done 1 = true) {a b e : Value} (hx : x45 = .agg #[a, b, e]) :
    Tu3 w0 wd hs ss (fun j => if j = 9 then true else done j) x45 x47 x49 (.pointer (some ⟨p, 0, none⟩)) x7 x8 (((W.setCell ⟨p, 0, none⟩ a).setCell ⟨p, 1, none⟩ b).setCell ⟨p, 2, none⟩ e) := by
  obtain ⟨p', h1, h2, h3⟩ := H.d6 hbx
  have e1 : p = p' := by simpa using h1
  subst e1
  rw [hd] at h3
  have h3 : W.heap[p]? = some (.cells #[.int .i64 0, .slice none 0 0, .slice none 0 0] 25 (0, 0)) := h3
  have hsz : (((W.setCell ⟨p, 0, none⟩ a).setCell ⟨p, 1, none⟩ b).setCell ⟨p, 2, none⟩ e).heap.size = W.heap.size := by simp [World.setCell]
  refine ⟨((H.b.setCell (p := ⟨p, 0, none⟩) h2 _).setCell (p := ⟨p, 1, none⟩) h2 _).setCell (p := ⟨p, 2, none⟩) h2 _, fun h => ?_, fun h => by simpa using H.w3 (by simpa using h), fun h => by simpa using H.w5 (by simpa using h), fun _ => ⟨p, rfl, h2, by rw [heap_setCell_self _ (heap_setCell_self _ (heap_setCell_self _ h3)), hx]; simp [boxObj, Value.cells]⟩, fun h => (let ⟨r, g1, g2, g3⟩ := H.d7 (by simpa using h); have hr : r ≠ p := fun e' => H.n67 (by simpa using hbx) (by simpa using h) (by rw [g1, e']); ⟨r, g1, g2, by rw [Below.heap_setCell _ _ _ r hr, Below.heap_setCell _ _ _ r hr, Below.heap_setCell _ _ _ r hr, g3]; simp⟩), fun h => (let ⟨r, g1, g2, g3⟩ := H.d8 (by simpa using h); have hr : r ≠ p := fun e' => H.n68 (by simpa using hbx) (by simpa using h) (by rw [g1, e']); ⟨r, g1, g2, by rw [Below.heap_setCell _ _ _ r hr, Below.heap_setCell _ _ _ r hr, Below.heap_setCell _ _ _ r hr, g3]; simp⟩), fun h k => H.n67 (by simpa using h) (by simpa using k), fun h k => H.n68 (by simpa using h) (by simpa using k), fun h k => H.n78 (by simpa using h) (by simpa using k), fun h => by exact ⟨by simpa using hcl, by simpa using hbx⟩, fun h => by simpa using H.w10 (by simpa using h), fun h => by simpa using H.w11 (by simpa using h)⟩
  obtain ⟨N, k1, k2, k3⟩ := H.c (by simpa using h)
  refine ⟨N, by rw [hsz]; exact k1, k2.box h3 _ _ _, fun h => ?_⟩
  obtain ⟨M, k4, k5, k6, k7⟩ := k3 (by simpa using h)
  exact ⟨M, by rw [hsz]; exact k4, k5, k6.box h3 _ _ _, fun h => by rw [hsz]; exact (k7 (by simpa using h)).box h3 _ _ _⟩
theorem Tu3.st10 {w0 : World} {wd : Int} {hs : List (Int × Int)} {ss : List Int} {done : Nat → Bool} {x45 x47 x49 x6 x8 : Value} {W : World} {p : Nat} (H : Tu3 w0 wd hs ss done x45 x47 x49 x6 (.pointer (some ⟨p, 0, none⟩)) x8 W) (hd : done 10 = false) (hbx : done 7 = true) (hcl : done 3 = true) {a b e : Value} (hx : x47 = .agg #[a, b, e]) :
    Tu3 w0 wd hs ss (fun j => if j = 10 then true else done j) x45 x47 x49 x6 (.pointer (some ⟨p, 0, none⟩)) x8 (((W.setCell ⟨p, 0, none⟩ a).setCell ⟨p, 1, none⟩ b).setCell ⟨p, 2, none⟩ e) := by
  obtain ⟨p', h1, h2, h3⟩ := H.d7 hbx
  have e1 : p = p' := by simpa using h1
  subst e1
  rw [hd] at h3
  have h3 : W.heap[p]? = some (.cells #[.int .i64 0, .slice none 0 0, .slice none 0 0] 25 (0, 0)) := h3
  have hsz : (((W.setCell ⟨p, 0, none⟩ a).setCell ⟨p, 1, none⟩ b).setCell ⟨p, 2, none⟩ e).heap.size = W.heap.size := by simp [World.setCell]
  refine ⟨((H.b.setCell (p := ⟨p, 0, none⟩) h2 _).setCell (p := ⟨p, 1, none⟩) h2 _).setCell (p := ⟨p, 2, none⟩) h2 _, fun h => ?_, fun h => by simpa using H.w3 (by simpa using h), fun h => by simpa using H.w5 (by simpa using h), fun h => (let ⟨r, g1, g2, g3⟩ := H.d6 (by simpa using h); have hr : r ≠ p := fun e' => H.n67 (by simpa using h) (by simpa using hbx) (by rw [g1, e']); ⟨r, g1, g2, by rw [Below.heap_setCell _ _ _ r hr, Below.heap_setCell _ _ _ r hr, Below.heap_setCell _ _ _ r hr, g3]; simp⟩), fun _ => ⟨p, rfl, h2, by rw [heap_setCell_self _ (heap_setCell_self _ (heap_setCell_self _ h3)), hx]; simp [boxObj, Value.cells]⟩, fun h => (let ⟨r, g1, g2, g3⟩ := H.d8 (by simpa using h); have hr : r ≠ p := fun e' => H.n78 (by simpa using hbx) (by simpa using h) (by rw [g1, e']); ⟨r, g1, g2, by rw [Below.heap_setCell _ _ _ r hr, Below.heap_setCell _ _ _ r hr, Below.heap_setCell _ _ _ r hr, g3]; simp⟩), fun h k => H.n67 (by simpa using h) (by simpa using k), fun h k => H.n68 (by simpa using h) (by simpa using k), fun h k => H.n78 (by simpa using h) (by simpa using k), fun h => by simpa using H.w9 (by simpa using h), fun h => by exact ⟨by simpa using hcl, by simpa using hbx⟩, fun h => by simpa using H.w11 (by simpa using h)⟩
  obtain ⟨N, k1, k2, k3⟩ := H.c (by simpa using h)
  refine ⟨N, by rw [hsz]; exact k1, k2.box h3 _ _ _, fun h => ?_⟩
  obtain ⟨M, k4, k5, k6, k7⟩ := k3 (by simpa using h)
  exact ⟨M, by rw [hsz]; exact k4, k5, k6.box h3 _ _ _, fun h => by rw [hsz]; exact (k7 (by simpa using h)).box h3 _ _ _⟩
theorem Tu3.st11 {w0 : World} {wd : Int} {hs : List (Int × Int)} {ss : List Int} {done : Nat → Bool} {x45 x47 x49 x6 x7 : Value} {W : World} {p : Nat} (H : Tu3 w0 wd hs ss done x45 x47 x49 x6 x7 (.pointer (some ⟨p, 0, none⟩)) W) (hd : done 11 = false) (hbx : done 8 = true) (hcl : done 5 = true) {a b e : Value} (hx : x49 = .agg #[a, b, e]) :
    Tu3 w0 wd hs ss (fun j => if j = 11 then true else done j) x45 x47 x49 x6 x7 (.pointer (some ⟨p, 0, none⟩)) (((W.setCell ⟨p, 0, none⟩ a).setCell ⟨p, 1, none⟩ b).setCell ⟨p, 2, none⟩ e) := by
  obtain ⟨p', h1, h2, h3⟩ := H.d8 hbx
  have e1 : p = p' := by simpa using h1
  subst e1
  rw [hd] at h3
  have h3 : W.heap[p]? = some (.cells #[.int .i64 0, .slice none 0 0, .slice none 0 0] 25 (0, 0)) := h3
  have hsz : (((W.setCell ⟨p, 0, none⟩ a).setCell ⟨p, 1, none⟩ b).setCell ⟨p, 2, none⟩ e).heap.size = W.heap.size := by simp [World.setCell]
  refine ⟨((H.b.setCell (p := ⟨p, 0, none⟩) h2 _).setCell (p := ⟨p, 1, none⟩) h2 _).setCell (p := ⟨p, 2, none⟩) h2 _, fun h => ?_, fun h => by simpa using H.w3 (by simpa using h), fun h => by simpa using H.w5 (by simpa using h), fun h => (let ⟨r, g1, g2, g3⟩ := H.d6 (by simpa using h); have hr : r ≠ p := fun e' => H.n68 (by simpa using h) (by simpa using hbx) (by rw [g1, e']); ⟨r, g1, g2, by rw [Below.heap_setCell _ _ _ r hr, Below.heap_setCell _ _ _ r hr, Below.heap_setCell _ _ _ r hr, g3]; simp⟩), fun h => (let ⟨r, g1, g2, g3⟩ := H.d7 (by simpa using h); have hr : r ≠ p := fun e' => H.n78 (by simpa using h) (by simpa using hbx) (by rw [g1, e']); ⟨r, g1, g2, by rw [Below.heap_setCell _ _ _ r hr, Below.heap_setCell _ _ _ r hr, Below.heap_setCell _ _ _ r hr, g3]; simp⟩), fun _ => ⟨p, rfl, h2, by rw [heap_setCell_self _ (heap_setCell_self _ (heap_setCell_self _ h3)), hx]; simp [boxObj, Value.cells]⟩, fun h k => H.n67 (by simpa using h) (by simpa using k), fun h k => H.n68 (by simpa using h) (by simpa using k), fun h k => H.n78 (by simpa using h) (by simpa using k), fun h => by simpa using H.w9 (by simpa using h), fun h => by simpa using H.w10 (by simpa using h), fun h => by exact ⟨by simpa using hcl, by simpa using hbx⟩⟩
  obtain ⟨N, k1, k2, k3⟩ := H.c (by simpa using h)
  refine ⟨N, by rw [hsz]; exact k1, k2.box h3 _ _ _, fun h => ?_⟩
  obtain ⟨M, k4, k5, k6, k7⟩ := k3 (by simpa using h)
  exact ⟨M, by rw [hsz]; exact k4, k5, k6.box h3 _ _ _, fun h => by rw [hsz]; exact (k7 (by simpa using h)).box h3 _ _ _⟩
theorem Tu3.begin (w0 : World) {wd : Int} {hs : List (Int × Int)} {ss : List Int} {x45 x47 x49 x6 x7 x8 : Value} : Tu3 w0 wd hs ss (fun _ => false) x45 x47 x49 x6 x7 x8 w0 := by
  refine ⟨Below.refl _ _, ?_, ?_, ?_, ?_, ?_, ?_, ?_, ?_, ?_, ?_, ?_, ?_⟩ <;> (intro h; cases h)
end Go.Proofs.Ytdgibmgifgdpbaa
/-
  RidgeTurned: memory while the three grounds are filled.
-/
namespace Go.Proofs.Ytdgibmgifgdpbaa
open Go.RowKit Go.Shelf
open Lim

structure TuL (w0 : World) (wd rw : Int) (n p6 p7 p8 : Nat) (hO sO hT sT hB sB pP pM kO cO kT cT kB cB cP cM : Nat) (hs Th Bh : List (Int × Int)) (O Ts Bs P M : List Int) (W : World) : Prop where
  b : Below w0.heap.size w0 W
  oh : W.ownsRow w0.heap.size 54 2 (.slice (some ⟨hO, 0, none⟩) n kO) n (spans hs)
  os : W.ownsRow w0.heap.size 3 1 (.slice (some ⟨sO, 0, none⟩) n cO) n (ints O)
  th : W.ownsRow w0.heap.size 54 2 (.slice (some ⟨hT, 0, none⟩) n kT) n (spans Th)
  ts : W.ownsRow w0.heap.size 3 1 (.slice (some ⟨sT, 0, none⟩) n cT) n (ints Ts)
  bh : W.ownsRow w0.heap.size 54 2 (.slice (some ⟨hB, 0, none⟩) n kB) n (spans Bh)
  bs : W.ownsRow w0.heap.size 3 1 (.slice (some ⟨sB, 0, none⟩) n cB) n (ints Bs)
  pl : W.ownsRow w0.heap.size 3 1 (.slice (some ⟨pP, 0, none⟩) n cP) n (ints P)
  mi : W.ownsRow w0.heap.size 3 1 (.slice (some ⟨pM, 0, none⟩) n cM) n (ints M)
  x6 : W.heap[p6]? = some (.cells #[.int .i64 wd, .slice (some ⟨hO, 0, none⟩) n kO, .slice (some ⟨sO, 0, none⟩) n cO] 25 (0, 0))
  x7 : W.heap[p7]? = some (.cells #[.int .i64 rw, .slice (some ⟨hT, 0, none⟩) n kT, .slice (some ⟨sT, 0, none⟩) n cT] 25 (0, 0))
  x8 : W.heap[p8]? = some (.cells #[.int .i64 wd, .slice (some ⟨hB, 0, none⟩) n kB, .slice (some ⟨sB, 0, none⟩) n cB] 25 (0, 0))
  nhOsO : hO ≠ sO
  nhOhT : hO ≠ hT
  nhOsT : hO ≠ sT
  nhOhB : hO ≠ hB
  nhOsB : hO ≠ sB
  nhOpP : hO ≠ pP
  nhOpM : hO ≠ pM
  nsOhT : sO ≠ hT
  nsOsT : sO ≠ sT
  nsOhB : sO ≠ hB
  nsOsB : sO ≠ sB
  nsOpP : sO ≠ pP
  nsOpM : sO ≠ pM
  nhTsT : hT ≠ sT
  nhThB : hT ≠ hB
  nhTsB : hT ≠ sB
  nhTpP : hT ≠ pP
  nhTpM : hT ≠ pM
  nsThB : sT ≠ hB
  nsTsB : sT ≠ sB
  nsTpP : sT ≠ pP
  nsTpM : sT ≠ pM
  nhBsB : hB ≠ sB
  nhBpP : hB ≠ pP
  nhBpM : hB ≠ pM
  nsBpP : sB ≠ pP
  nsBpM : sB ≠ pM
  npPpM : pP ≠ pM
  lo : w0.heap.size ≤ p6 ∧ w0.heap.size ≤ p7 ∧ w0.heap.size ≤ p8
theorem TuL.put_os {w0 : World} {wd rw : Int} {n p6 p7 p8 : Nat} {hO sO hT sT hB sB pP pM kO cO kT cT kB cB cP cM : Nat} {hs Th Bh : List (Int × Int)} {O Ts Bs P M : List Int} {W : World} (H : TuL w0 wd rw n p6 p7 p8 hO sO hT sT hB sB pP pM kO cO kT cT kB cB cP cM hs Th Bh O Ts Bs P M W) (j : Nat) (v : Int) : TuL w0 wd rw n p6 p7 p8 hO sO hT sT hB sB pP pM kO cO kT cT kB cB cP cM hs Th Bh (O.set j v) Ts Bs P M (W.setCell ⟨sO, j, none⟩ (.int .i64 v)) := by
  obtain ⟨hS, -, cs, hp⟩ := owned_block (r := ⟨3, 1, .slice (some ⟨sO, 0, none⟩) n cO, n, ints O⟩) H.os (k := sO) rfl
  have hp : W.heap[sO]? = some (.cells cs 3 (0, 0)) := hp
  have off : ∀ r, r ≠ sO → (W.setCell ⟨sO, j, none⟩ (.int .i64 v)).heap[r]? = W.heap[r]? := fun r hr => by rw [Below.heap_setCell _ _ _ r hr]
  have ne : ∀ (r : Nat) (cs : Array Value), W.heap[r]? = some (Obj.cells cs 25 (0, 0)) → r ≠ sO := fun r cs hr e => by
    subst e; rw [hp] at hr
    have : (3 : TypeId) = 25 := (Obj.cells.inj (Option.some.inj hr)).2.1
    exact absurd this (by decide)
  exact ⟨H.b.setCell (p := ⟨sO, j, none⟩) hS _, ownsRow_setCell_other H.oh (a := ⟨sO, j, none⟩) (fun e => H.nhOsO (by simpa [Value.ownBlock] using e)) _, (by have h := (H.os.stored j (.int .i64 v)).1; rw [show ints (O.set j v) = (ints O).set j (.int .i64 v) from by unfold ints; rw [List.map_set]]; exact h), ownsRow_setCell_other H.th (a := ⟨sO, j, none⟩) (fun e => H.nsOhT.symm (by simpa [Value.ownBlock] using e)) _, ownsRow_setCell_other H.ts (a := ⟨sO, j, none⟩) (fun e => H.nsOsT.symm (by simpa [Value.ownBlock] using e)) _, ownsRow_setCell_other H.bh (a := ⟨sO, j, none⟩) (fun e => H.nsOhB.symm (by simpa [Value.ownBlock] using e)) _, ownsRow_setCell_other H.bs (a := ⟨sO, j, none⟩) (fun e => H.nsOsB.symm (by simpa [Value.ownBlock] using e)) _, ownsRow_setCell_other H.pl (a := ⟨sO, j, none⟩) (fun e => H.nsOpP.symm (by simpa [Value.ownBlock] using e)) _, ownsRow_setCell_other H.mi (a := ⟨sO, j, none⟩) (fun e => H.nsOpM.symm (by simpa [Value.ownBlock] using e)) _, (off _ (ne _ _ H.x6)).trans H.x6, (off _ (ne _ _ H.x7)).trans H.x7, (off _ (ne _ _ H.x8)).trans H.x8, H.nhOsO, H.nhOhT, H.nhOsT, H.nhOhB, H.nhOsB, H.nhOpP, H.nhOpM, H.nsOhT, H.nsOsT, H.nsOhB, H.nsOsB, H.nsOpP, H.nsOpM, H.nhTsT, H.nhThB, H.nhTsB, H.nhTpP, H.nhTpM, H.nsThB, H.nsTsB, H.nsTpP, H.nsTpM, H.nhBsB, H.nhBpP, H.nhBpM, H.nsBpP, H.nsBpM, H.npPpM, H.lo⟩
theorem TuL.put_th {w0 : World} {wd rw : Int} {n p6 p7 p8 : Nat} {hO sO hT sT hB sB pP pM kO cO kT cT kB cB cP cM : Nat} {hs Th Bh : List (Int × Int)} {O Ts Bs P M : List Int} {W : World} (H : TuL w0 wd rw n p6 p7 p8 hO sO hT sT hB sB pP pM kO cO kT cT kB cB cP cM hs Th Bh O Ts Bs P M W) (j : Nat) (v : Int × Int) : TuL w0 wd rw n p6 p7 p8 hO sO hT sT hB sB pP pM kO cO kT cT kB cB cP cM hs (Th.set j v) Bh O Ts Bs P M ((W.setCell ⟨hT, j * 2, none⟩ (.int .i64 v.1)).setCell ⟨hT, j * 2 + 1, none⟩ (.int .i64 v.2)) := by
  obtain ⟨hS, -, cs, hp⟩ := owned_block (r := ⟨54, 2, .slice (some ⟨hT, 0, none⟩) n kT, n, spans Th⟩) H.th (k := hT) rfl
  have hp : W.heap[hT]? = some (.cells cs 54 (0, 0)) := hp
  have off : ∀ r, r ≠ hT → ((W.setCell ⟨hT, j * 2, none⟩ (.int .i64 v.1)).setCell ⟨hT, j * 2 + 1, none⟩ (.int .i64 v.2)).heap[r]? = W.heap[r]? := fun r hr => by rw [Below.heap_setCell _ _ _ r hr, Below.heap_setCell _ _ _ r hr]
  have ne : ∀ (r : Nat) (cs : Array Value), W.heap[r]? = some (Obj.cells cs 25 (0, 0)) → r ≠ hT := fun r cs hr e => by
    subst e; rw [hp] at hr
    have : (54 : TypeId) = 25 := (Obj.cells.inj (Option.some.inj hr)).2.1
    exact absurd this (by decide)
  exact ⟨(H.b.setCell (p := ⟨hT, j * 2, none⟩) hS _).setCell (p := ⟨hT, j * 2 + 1, none⟩) hS _, ownsRow_setCell_other (ownsRow_setCell_other H.oh (a := ⟨hT, j * 2, none⟩) (fun e => H.nhOhT (by simpa [Value.ownBlock] using e)) _) (a := ⟨hT, j * 2 + 1, none⟩) (fun e => H.nhOhT (by simpa [Value.ownBlock] using e)) _, ownsRow_setCell_other (ownsRow_setCell_other H.os (a := ⟨hT, j * 2, none⟩) (fun e => H.nsOhT (by simpa [Value.ownBlock] using e)) _) (a := ⟨hT, j * 2 + 1, none⟩) (fun e => H.nsOhT (by simpa [Value.ownBlock] using e)) _, span_put H.th j v.1 v.2, ownsRow_setCell_other (ownsRow_setCell_other H.ts (a := ⟨hT, j * 2, none⟩) (fun e => H.nhTsT.symm (by simpa [Value.ownBlock] using e)) _) (a := ⟨hT, j * 2 + 1, none⟩) (fun e => H.nhTsT.symm (by simpa [Value.ownBlock] using e)) _, ownsRow_setCell_other (ownsRow_setCell_other H.bh (a := ⟨hT, j * 2, none⟩) (fun e => H.nhThB.symm (by simpa [Value.ownBlock] using e)) _) (a := ⟨hT, j * 2 + 1, none⟩) (fun e => H.nhThB.symm (by simpa [Value.ownBlock] using e)) _, ownsRow_setCell_other (ownsRow_setCell_other H.bs (a := ⟨hT, j * 2, none⟩) (fun e => H.nhTsB.symm (by simpa [Value.ownBlock] using e)) _) (a := ⟨hT, j * 2 + 1, none⟩) (fun e => H.nhTsB.symm (by simpa [Value.ownBlock] using e)) _, ownsRow_setCell_other (ownsRow_setCell_other H.pl (a := ⟨hT, j * 2, none⟩) (fun e => H.nhTpP.symm (by simpa [Value.ownBlock] using e)) _) (a := ⟨hT, j * 2 + 1, none⟩) (fun e => H.nhTpP.symm (by simpa [Value.ownBlock] using e)) _, ownsRow_setCell_other (ownsRow_setCell_other H.mi (a := ⟨hT, j * 2, none⟩) (fun e => H.nhTpM.symm (by simpa [Value.ownBlock] using e)) _) (a := ⟨hT, j * 2 + 1, none⟩) (fun e => H.nhTpM.symm (by simpa [Value.ownBlock] using e)) _, (off _ (ne _ _ H.x6)).trans H.x6, (off _ (ne _ _ H.x7)).trans H.x7, (off _ (ne _ _ H.x8)).trans H.x8, H.nhOsO, H.nhOhT, H.nhOsT, H.nhOhB, H.nhOsB, H.nhOpP, H.nhOpM, H.nsOhT, H.nsOsT, H.nsOhB, H.nsOsB, H.nsOpP, H.nsOpM, H.nhTsT, H.nhThB, H.nhTsB, H.nhTpP, H.nhTpM, H.nsThB, H.nsTsB, H.nsTpP, H.nsTpM, H.nhBsB, H.nhBpP, H.nhBpM, H.nsBpP, H.nsBpM, H.npPpM, H.lo⟩
theorem TuL.put_ts {w0 : World} {wd rw : Int} {n p6 p7 p8 : Nat} {hO sO hT sT hB sB pP pM kO cO kT cT kB cB cP cM : Nat} {hs Th Bh : List (Int × Int)} {O Ts Bs P M : List Int} {W : World} (H : TuL w0 wd rw n p6 p7 p8 hO sO hT sT hB sB pP pM kO cO kT cT kB cB cP cM hs Th Bh O Ts Bs P M W) (j : Nat) (v : Int) : TuL w0 wd rw n p6 p7 p8 hO sO hT sT hB sB pP pM kO cO kT cT kB cB cP cM hs Th Bh O (Ts.set j v) Bs P M (W.setCell ⟨sT, j, none⟩ (.int .i64 v)) := by
  obtain ⟨hS, -, cs, hp⟩ := owned_block (r := ⟨3, 1, .slice (some ⟨sT, 0, none⟩) n cT, n, ints Ts⟩) H.ts (k := sT) rfl
  have hp : W.heap[sT]? = some (.cells cs 3 (0, 0)) := hp
  have off : ∀ r, r ≠ sT → (W.setCell ⟨sT, j, none⟩ (.int .i64 v)).heap[r]? = W.heap[r]? := fun r hr => by rw [Below.heap_setCell _ _ _ r hr]
  have ne : ∀ (r : Nat) (cs : Array Value), W.heap[r]? = some (Obj.cells cs 25 (0, 0)) → r ≠ sT := fun r cs hr e => by
    subst e; rw [hp] at hr
    have : (3 : TypeId) = 25 := (Obj.cells.inj (Option.some.inj hr)).2.1
    exact absurd this (by decide)
  exact ⟨H.b.setCell (p := ⟨sT, j, none⟩) hS _, ownsRow_setCell_other H.oh (a := ⟨sT, j, none⟩) (fun e => H.nhOsT (by simpa [Value.ownBlock] using e)) _, ownsRow_setCell_other H.os (a := ⟨sT, j, none⟩) (fun e => H.nsOsT (by simpa [Value.ownBlock] using e)) _, ownsRow_setCell_other H.th (a := ⟨sT, j, none⟩) (fun e => H.nhTsT (by simpa [Value.ownBlock] using e)) _, (by have h := (H.ts.stored j (.int .i64 v)).1; rw [show ints (Ts.set j v) = (ints Ts).set j (.int .i64 v) from by unfold ints; rw [List.map_set]]; exact h), ownsRow_setCell_other H.bh (a := ⟨sT, j, none⟩) (fun e => H.nsThB.symm (by simpa [Value.ownBlock] using e)) _, ownsRow_setCell_other H.bs (a := ⟨sT, j, none⟩) (fun e => H.nsTsB.symm (by simpa [Value.ownBlock] using e)) _, ownsRow_setCell_other H.pl (a := ⟨sT, j, none⟩) (fun e => H.nsTpP.symm (by simpa [Value.ownBlock] using e)) _, ownsRow_setCell_other H.mi (a := ⟨sT, j, none⟩) (fun e => H.nsTpM.symm (by simpa [Value.ownBlock] using e)) _, (off _ (ne _ _ H.x6)).trans H.x6, (off _ (ne _ _ H.x7)).trans H.x7, (off _ (ne _ _ H.x8)).trans H.x8, H.nhOsO, H.nhOhT, H.nhOsT, H.nhOhB, H.nhOsB, H.nhOpP, H.nhOpM, H.nsOhT, H.nsOsT, H.nsOhB, H.nsOsB, H.nsOpP, H.nsOpM, H.nhTsT, H.nhThB, H.nhTsB, H.nhTpP, H.nhTpM, H.nsThB, H.nsTsB, H.nsTpP, H.nsTpM, H.nhBsB, H.nhBpP, H.nhBpM, H.nsBpP, H.nsBpM, H.npPpM, H.lo⟩
theorem TuL.put_bh {w0 : World} {wd rw : Int} {n p6 p7 p8 : Nat} {hO sO hT sT hB sB pP pM kO cO kT cT kB cB cP cM : Nat} {hs Th Bh : List (Int × Int)} {O Ts Bs P M : List Int} {W : World} (H : TuL w0 wd rw n p6 p7 p8 hO sO hT sT hB sB pP pM kO cO kT cT kB cB cP cM hs Th Bh O Ts Bs P M W) (j : Nat) (v : Int × Int) : TuL w0 wd rw n p6 p7 p8 hO sO hT sT hB sB pP pM kO cO kT cT kB cB cP cM hs Th (Bh.set j v) O Ts Bs P M ((W.setCell ⟨hB, j * 2, none⟩ (.int .i64 v.1)).setCell ⟨hB, j * 2 + 1, none⟩ (.int .i64 v.2)) := by
  obtain ⟨hS, -, cs, hp⟩ := owned_block (r := ⟨54, 2, .slice (some ⟨hB, 0, none⟩) n kB, n, spans Bh⟩) H.bh (k := hB) rfl
  have hp : W.heap[hB]? = some (.cells cs 54 (0, 0)) := hp
  have off : ∀ r, r ≠ hB → ((W.setCell ⟨hB, j * 2, none⟩ (.int .i64 v.1)).setCell ⟨hB, j * 2 + 1, none⟩ (.int .i64 v.2)).heap[r]? = W.heap[r]? := fun r hr => by rw [Below.heap_setCell _ _ _ r hr, Below.heap_setCell _ _ _ r hr]
  have ne : ∀ (r : Nat) (cs : Array Value), W.heap[r]? = some (Obj.cells cs 25 (0, 0)) → r ≠ hB := fun r cs hr e => by
    subst e; rw [hp] at hr
    have : (54 : TypeId) = 25 := (Obj.cells.inj (Option.some.inj hr)).2.1
    exact absurd this (by decide)
  exact ⟨(H.b.setCell (p := ⟨hB, j * 2, none⟩) hS _).setCell (p := ⟨hB, j * 2 + 1, none⟩) hS _, ownsRow_setCell_other (ownsRow_setCell_other H.oh (a := ⟨hB, j * 2, none⟩) (fun e => H.nhOhB (by simpa [Value.ownBlock] using e)) _) (a := ⟨hB, j * 2 + 1, none⟩) (fun e => H.nhOhB (by simpa [Value.ownBlock] using e)) _, ownsRow_setCell_other (ownsRow_setCell_other H.os (a := ⟨hB, j * 2, none⟩) (fun e => H.nsOhB (by simpa [Value.ownBlock] using e)) _) (a := ⟨hB, j * 2 + 1, none⟩) (fun e => H.nsOhB (by simpa [Value.ownBlock] using e)) _, ownsRow_setCell_other (ownsRow_setCell_other H.th (a := ⟨hB, j * 2, none⟩) (fun e => H.nhThB (by simpa [Value.ownBlock] using e)) _) (a := ⟨hB, j * 2 + 1, none⟩) (fun e => H.nhThB (by simpa [Value.ownBlock] using e)) _, ownsRow_setCell_other (ownsRow_setCell_other H.ts (a := ⟨hB, j * 2, none⟩) (fun e => H.nsThB (by simpa [Value.ownBlock] using e)) _) (a := ⟨hB, j * 2 + 1, none⟩) (fun e => H.nsThB (by simpa [Value.ownBlock] using e)) _, span_put H.bh j v.1 v.2, ownsRow_setCell_other (ownsRow_setCell_other H.bs (a := ⟨hB, j * 2, none⟩) (fun e => H.nhBsB.symm (by simpa [Value.ownBlock] using e)) _) (a := ⟨hB, j * 2 + 1, none⟩) (fun e => H.nhBsB.symm (by simpa [Value.ownBlock] using e)) _, ownsRow_setCell_other (ownsRow_setCell_other H.pl (a := ⟨hB, j * 2, none⟩) (fun e => H.nhBpP.symm (by simpa [Value.ownBlock] using e)) _) (a := ⟨hB, j * 2 + 1, none⟩) (fun e => H.nhBpP.symm (by simpa [Value.ownBlock] using e)) _, ownsRow_setCell_other (ownsRow_setCell_other H.mi (a := ⟨hB, j * 2, none⟩) (fun e => H.nhBpM.symm (by simpa [Value.ownBlock] using e)) _) (a := ⟨hB, j * 2 + 1, none⟩) (fun e => H.nhBpM.symm (by simpa [Value.ownBlock] using e)) _, (off _ (ne _ _ H.x6)).trans H.x6, (off _ (ne _ _ H.x7)).trans H.x7, (off _ (ne _ _ H.x8)).trans H.x8, H.nhOsO, H.nhOhT, H.nhOsT, H.nhOhB, H.nhOsB, H.nhOpP, H.nhOpM, H.nsOhT, H.nsOsT, H.nsOhB, H.nsOsB, H.nsOpP, H.nsOpM, H.nhTsT, H.nhThB, H.nhTsB, H.nhTpP, H.nhTpM, H.nsThB, H.nsTsB, H.nsTpP, H.nsTpM, H.nhBsB, H.nhBpP, H.nhBpM, H.nsBpP, H.nsBpM, H.npPpM, H.lo⟩
theorem TuL.put_bs {w0 : World} {wd rw : Int} {n p6 p7 p8 : Nat} {hO sO hT sT hB sB pP pM kO cO kT cT kB cB cP cM : Nat} {hs Th Bh : List (Int × Int)} {O Ts Bs P M : List Int} {W : World} (H : TuL w0 wd rw n p6 p7 p8 hO sO hT sT hB sB pP pM kO cO kT cT kB cB cP cM hs Th Bh O Ts Bs P M W) (j : Nat) (v : Int) : TuL w0 wd rw n p6 p7 p8 hO sO hT sT hB sB pP pM kO cO kT cT kB cB cP cM hs Th Bh O Ts (Bs.set j v) P M (W.setCell ⟨sB, j, none⟩ (.int .i64 v)) := by
  obtain ⟨hS, -, cs, hp⟩ := owned_block (r := ⟨3, 1, .slice (some ⟨sB, 0, none⟩) n cB, n, ints Bs⟩) H.bs (k := sB) rfl
  have hp : W.heap[sB]? = some (.cells cs 3 (0, 0)) := hp
  have off : ∀ r, r ≠ sB → (W.setCell ⟨sB, j, none⟩ (.int .i64 v)).heap[r]? = W.heap[r]? := fun r hr => by rw [Below.heap_setCell _ _ _ r hr]
  have ne : ∀ (r : Nat) (cs : Array Value), W.heap[r]? = some (Obj.cells cs 25 (0, 0)) → r ≠ sB := fun r cs hr e => by
    subst e; rw [hp] at hr
    have : (3 : TypeId) = 25 := (Obj.cells.inj (Option.some.inj hr)).2.1
    exact absurd this (by decide)
  exact ⟨H.b.setCell (p := ⟨sB, j, none⟩) hS _, ownsRow_setCell_other H.oh (a := ⟨sB, j, none⟩) (fun e => H.nhOsB (by simpa [Value.ownBlock] using e)) _, ownsRow_setCell_other H.os (a := ⟨sB, j, none⟩) (fun e => H.nsOsB (by simpa [Value.ownBlock] using e)) _, ownsRow_setCell_other H.th (a := ⟨sB, j, none⟩) (fun e => H.nhTsB (by simpa [Value.ownBlock] using e)) _, ownsRow_setCell_other H.ts (a := ⟨sB, j, none⟩) (fun e => H.nsTsB (by simpa [Value.ownBlock] using e)) _, ownsRow_setCell_other H.bh (a := ⟨sB, j, none⟩) (fun e => H.nhBsB (by simpa [Value.ownBlock] using e)) _, (by have h := (H.bs.stored j (.int .i64 v)).1; rw [show ints (Bs.set j v) = (ints Bs).set j (.int .i64 v) from by unfold ints; rw [List.map_set]]; exact h), ownsRow_setCell_other H.pl (a := ⟨sB, j, none⟩) (fun e => H.nsBpP.symm (by simpa [Value.ownBlock] using e)) _, ownsRow_setCell_other H.mi (a := ⟨sB, j, none⟩) (fun e => H.nsBpM.symm (by simpa [Value.ownBlock] using e)) _, (off _ (ne _ _ H.x6)).trans H.x6, (off _ (ne _ _ H.x7)).trans H.x7, (off _ (ne _ _ H.x8)).trans H.x8, H.nhOsO, H.nhOhT, H.nhOsT, H.nhOhB, H.nhOsB, H.nhOpP, H.nhOpM, H.nsOhT, H.nsOsT, H.nsOhB, H.nsOsB, H.nsOpP, H.nsOpM, H.nhTsT, H.nhThB, H.nhTsB, H.nhTpP, H.nhTpM, H.nsThB, H.nsTsB, H.nsTpP, H.nsTpM, H.nhBsB, H.nhBpP, H.nhBpM, H.nsBpP, H.nsBpM, H.npPpM, H.lo⟩
theorem TuL.put_pl {w0 : World} {wd rw : Int} {n p6 p7 p8 : Nat} {hO sO hT sT hB sB pP pM kO cO kT cT kB cB cP cM : Nat} {hs Th Bh : List (Int × Int)} {O Ts Bs P M : List Int} {W : World} (H : TuL w0 wd rw n p6 p7 p8 hO sO hT sT hB sB pP pM kO cO kT cT kB cB cP cM hs Th Bh O Ts Bs P M W) (j : Nat) (v : Int) : TuL w0 wd rw n p6 p7 p8 hO sO hT sT hB sB pP pM kO cO kT cT kB cB cP cM hs Th Bh O Ts Bs (P.set j v) M (W.setCell ⟨pP, j, none⟩ (.int .i64 v)) := by
  obtain ⟨hS, -, cs, hp⟩ := owned_block (r := ⟨3, 1, .slice (some ⟨pP, 0, none⟩) n cP, n, ints P⟩) H.pl (k := pP) rfl
  have hp : W.heap[pP]? = some (.cells cs 3 (0, 0)) := hp
  have off : ∀ r, r ≠ pP → (W.setCell ⟨pP, j, none⟩ (.int .i64 v)).heap[r]? = W.heap[r]? := fun r hr => by rw [Below.heap_setCell _ _ _ r hr]
  have ne : ∀ (r : Nat) (cs : Array Value), W.heap[r]? = some (Obj.cells cs 25 (0, 0)) → r ≠ pP := fun r cs hr e => by
    subst e; rw [hp] at hr
    have : (3 : TypeId) = 25 := (Obj.cells.inj (Option.some.inj hr)).2.1
    exact absurd this (by decide)
  exact ⟨H.b.setCell (p := ⟨pP, j, none⟩) hS _, ownsRow_setCell_other H.oh (a := ⟨pP, j, none⟩) (fun e => H.nhOpP (by simpa [Value.ownBlock] using e)) _, ownsRow_setCell_other H.os (a := ⟨pP, j, none⟩) (fun e => H.nsOpP (by simpa [Value.ownBlock] using e)) _, ownsRow_setCell_other H.th (a := ⟨pP, j, none⟩) (fun e => H.nhTpP (by simpa [Value.ownBlock] using e)) _, ownsRow_setCell_other H.ts (a := ⟨pP, j, none⟩) (fun e => H.nsTpP (by simpa [Value.ownBlock] using e)) _, ownsRow_setCell_other H.bh (a := ⟨pP, j, none⟩) (fun e => H.nhBpP (by simpa [Value.ownBlock] using e)) _, ownsRow_setCell_other H.bs (a := ⟨pP, j, none⟩) (fun e => H.nsBpP (by simpa [Value.ownBlock] using e)) _, (by have h := (H.pl.stored j (.int .i64 v)).1; rw [show ints (P.set j v) = (ints P).set j (.int .i64 v) from by unfold ints; rw [List.map_set]]; exact h), ownsRow_setCell_other H.mi (a := ⟨pP, j, none⟩) (fun e => H.npPpM.symm (by simpa [Value.ownBlock] using e)) _, (off _ (ne _ _ H.x6)).trans H.x6, (off _ (ne _ _ H.x7)).trans H.x7, (off _ (ne _ _ H.x8)).trans H.x8, H.nhOsO, H.nhOhT, H.nhOsT, H.nhOhB, H.nhOsB, H.nhOpP, H.nhOpM, H.nsOhT, H.nsOsT, H.nsOhB, H.nsOsB, H.nsOpP, H.nsOpM, H.nhTsT, H.nhThB, H.nhTsB, H.nhTpP, H.nhTpM, H.nsThB, H.nsTsB, H.nsTpP, H.nsTpM, H.nhBsB, H.nhBpP, H.nhBpM, H.nsBpP, H.nsBpM, H.npPpM, H.lo⟩
theorem TuL.put_mi {w0 : World} {wd rw : Int} {n p6 p7 p8 : Nat} {hO sO hT sT hB sB pP pM kO cO kT cT kB cB cP cM : Nat} {hs Th Bh : List (Int × Int)} {O Ts Bs P M : List Int} {W : World} (H : TuL w0 wd rw n p6 p7 p8 hO sO hT sT hB sB pP pM kO cO kT cT kB cB cP cM hs Th Bh O Ts Bs P M W) (j : Nat) (v : Int) : TuL w0 wd rw n p6 p7 p8 hO sO hT sT hB sB pP pM kO cO kT cT kB cB cP cM hs Th Bh O Ts Bs P (M.set j v) (W.setCell ⟨pM, j, none⟩ (.int .i64 v)) := by
  obtain ⟨hS, -, cs, hp⟩ := owned_block (r := ⟨3, 1, .slice (some ⟨pM, 0, none⟩) n cM, n, ints M⟩) H.mi (k := pM) rfl
  have hp : W.heap[pM]? = some (.cells cs 3 (0, 0)) := hp
  have off : ∀ r, r ≠ pM → (W.setCell ⟨pM, j, none⟩ (.int .i64 v)).heap[r]? = W.heap[r]? := fun r hr => by rw [Below.heap_setCell _ _ _ r hr]
  have ne : ∀ (r : Nat) (cs : Array Value), W.heap[r]? = some (Obj.cells cs 25 (0, 0)) → r ≠ pM := fun r cs hr e => by
    subst e; rw [hp] at hr
    have : (3 : TypeId) = 25 := (Obj.cells.inj (Option.some.inj hr)).2.1
    exact absurd this (by decide)
  exact ⟨H.b.setCell (p := ⟨pM, j, none⟩) hS _, ownsRow_setCell_other H.oh (a := ⟨pM, j, none⟩) (fun e => H.nhOpM (by simpa [Value.ownBlock] using e)) _, ownsRow_setCell_other H.os (a := ⟨pM, j, none⟩) (fun e => H.nsOpM (by simpa [Value.ownBlock] using e)) _, ownsRow_setCell_other H.th (a := ⟨pM, j, none⟩) (fun e => H.nhTpM (by simpa [Value.ownBlock] using e)) _, ownsRow_setCell_other H.ts (a := ⟨pM, j, none⟩) (fun e => H.nsTpM (by simpa [Value.ownBlock] using e)) _, ownsRow_setCell_other H.bh (a := ⟨pM, j, none⟩) (fun e => H.nhBpM (by simpa [Value.ownBlock] using e)) _, ownsRow_setCell_other H.bs (a := ⟨pM, j, none⟩) (fun e => H.nsBpM (by simpa [Value.ownBlock] using e)) _, ownsRow_setCell_other H.pl (a := ⟨pM, j, none⟩) (fun e => H.npPpM (by simpa [Value.ownBlock] using e)) _, (by have h := (H.mi.stored j (.int .i64 v)).1; rw [show ints (M.set j v) = (ints M).set j (.int .i64 v) from by unfold ints; rw [List.map_set]]; exact h), (off _ (ne _ _ H.x6)).trans H.x6, (off _ (ne _ _ H.x7)).trans H.x7, (off _ (ne _ _ H.x8)).trans H.x8, H.nhOsO, H.nhOhT, H.nhOsT, H.nhOhB, H.nhOsB, H.nhOpP, H.nhOpM, H.nsOhT, H.nsOsT, H.nsOhB, H.nsOsB, H.nsOpP, H.nsOpM, H.nhTsT, H.nhThB, H.nhTsB, H.nhTpP, H.nhTpM, H.nsThB, H.nsTsB, H.nsTpP, H.nsTpM, H.nhBsB, H.nhBpP, H.nhBpM, H.nsBpP, H.nsBpM, H.npPpM, H.lo⟩
theorem TuL.grow {w0 : World} {wd rw : Int} {n p6 p7 p8 : Nat} {hO sO hT sT hB sB pP pM kO cO kT cT kB cB cP cM : Nat} {hs Th Bh : List (Int × Int)} {O Ts Bs P M : List Int} {W : World} (H : TuL w0 wd rw n p6 p7 p8 hO sO hT sT hB sB pP pM kO cO kT cT kB cB cP cM hs Th Bh O Ts Bs P M W) {W' : World} (hb : Below W.heap.size W W') : TuL w0 wd rw n p6 p7 p8 hO sO hT sT hB sB pP pM kO cO kT cT kB cB cP cM hs Th Bh O Ts Bs P M W' :=
  ⟨H.b.trans (hb.mono H.b.size), owns_below H.oh hb, owns_below H.os hb, owns_below H.th hb, owns_below H.ts hb, owns_below H.bh hb, owns_below H.bs hb, owns_below H.pl hb, owns_below H.mi hb, heap_grow H.x6 hb, heap_grow H.x7 hb, heap_grow H.x8 hb, H.nhOsO, H.nhOhT, H.nhOsT, H.nhOhB, H.nhOsB, H.nhOpP, H.nhOpM, H.nsOhT, H.nsOsT, H.nsOhB, H.nsOsB, H.nsOpP, H.nsOpM, H.nhTsT, H.nhThB, H.nhTsB, H.nhTpP, H.nhTpM, H.nsThB, H.nsTsB, H.nsTpP, H.nsTpM, H.nhBsB, H.nhBpP, H.nhBpM, H.nsBpP, H.nsBpM, H.npPpM, H.lo⟩
end Go.Proofs.Ytdgibmgifgdpbaa
/-
  Two lists of zeros that are made in a drawn order.
-/
set_option linter.unnecessarySimpa false
namespace Go.Proofs.Ytdgibmgifgdpbaa
open Go.RowKit Go.Shelf
open Lim

theorem keep_typed {W : World} {S e size n p : Nat} {v : Value} {xs : List Value} {t : TypeId} {cs : Array Value} (h : W.ownsRow S e size v n xs) (hp : W.heap[p]? = some (.cells cs t (0, 0))) (ht : t ≠ e) (j : Nat) (u : Value) : (W.setCell ⟨p, j, none⟩ u).ownsRow S e size v n xs :=
  owned_keep (r := ⟨e, size, v, n, xs⟩) h (fun r hr => by
    obtain ⟨-, -, cs', hc⟩ := owned_block (r := ⟨e, size, v, n, xs⟩) h hr
    have hc : W.heap[r]? = some (.cells cs' e (0, 0)) := hc
    refine Below.heap_setCell _ _ _ r (fun e' => ?_)
    have e' : r = p := e'
    subst e'
    rw [hp] at hc
    exact ht (Obj.cells.inj (Option.some.inj hc)).2.1)
theorem typed {W : World} {S e size n p cap : Nat} {xs : List Value} (h : W.ownsRow S e size (.slice (some ⟨p, 0, none⟩) n cap) n xs) : ∃ cs, W.heap[p]? = some (.cells cs e (0, 0)) := (owned_block (r := ⟨e, size, .slice (some ⟨p, 0, none⟩) n cap, n, xs⟩) h (k := p) rfl).2.2
theorem typed_ne {W : World} {a b : Nat} {t u : TypeId} (ha : ∃ cs, W.heap[a]? = some (.cells cs t (0, 0))) (hb : ∃ cs, W.heap[b]? = some (.cells cs u (0, 0))) (h : t ≠ u) : a ≠ b := by
  rintro rfl
  obtain ⟨c1, h1⟩ := ha
  obtain ⟨c2, h2⟩ := hb
  rw [h1] at h2
  exact h (Obj.cells.inj (Option.some.inj h2)).2.1
theorem make_upon {F : Fence} {n : Nat} {P : Program} {Q : Exit → Act → World → Prop} {o : Oper} {a : Act} {K : Act → World → Prop} {w w' : World} {t : TypeId} {l c : Operand} {lv cv v : Value} (hop : o.op = Op.makeSlice t l c)
    (hl : a.eval l = lv) (hc : a.eval c = cv) (h : (Instr.makeSlice t lv cv).run P w = .ok v w') (hK : K (a.put o.dst v) w') : o.uponIn F n P a K Q ((execOp a.eval o).run P w) := by
  simp [execOp, hop, hl, hc, h, Result.andThen, Oper.uponIn]
  exact hK
theorem zeros_ints (n : Nat) : (madeCells (Value.int .i64 0).cells (n * 1)).toList = ints (List.replicate n 0) := by
  rw [Nat.mul_one]
  show (madeCells #[Value.int .i64 0] n).toList = _
  rw [toList_madeCells_one]
  simp [ints]
/-- a list of zeros is made -/
theorem make_zeros {W : World} {i : TypeInfo} (hi : Try.prog.info? 3 = some i ∧ i.zero = some (.int .i64 0) ∧ i.size = 1 ∧ i.bytes = 8) {B n : Nat} (hn : n ≤ 1000) (hB : B ≤ W.heap.size) :
    ∃ W', (Instr.makeSlice 23 (.int .i64 (n : Int)) (.int .i64 (n : Int))).run Try.prog W = .ok (.slice (some ⟨W.heap.size, 0, none⟩) n n) W' ∧ W'.ownsRow B 3 1 (.slice (some ⟨W.heap.size, 0, none⟩) n n) n (ints (List.replicate n 0)) ∧ Below W.heap.size W W' := by
  obtain ⟨W', h1, h2, h3⟩ := run_make_full (P := Try.prog) W B 23 3 i (.int .i64 0) 1 Try.underlying23 hi.1 hi.2.1 hi.2.2.1 .i64 .i64 n (by rw [hi.2.2.2]; omega) (by unfold maxLen; omega) hB
  rw [zeros_ints] at h2
  exact ⟨W', h1, h2, ⟨h3.os, h3.tape, h3.output, h3.size, fun k hk => h3.block k hk (fun e => by cases e)⟩⟩
structure Mk2 (W0 : World) (n : Nat) (done : Nat → Bool) (x55 x59 x9 x10 : Value) (W : World) : Prop where
  b : Below W0.heap.size W0 W
  d3 : done 3 = true → ∃ p, x55 = .slice (some ⟨p, 0, none⟩) n n ∧ (W0.heap.size ≤ p ∧ p < W.heap.size) ∧ W.ownsRow W0.heap.size 3 1 (.slice (some ⟨p, 0, none⟩) n n) n (ints (List.replicate n 0))
  d7 : done 7 = true → ∃ p, x59 = .slice (some ⟨p, 0, none⟩) n n ∧ (W0.heap.size ≤ p ∧ p < W.heap.size) ∧ W.ownsRow W0.heap.size 3 1 (.slice (some ⟨p, 0, none⟩) n n) n (ints (List.replicate n 0))
  ne : done 3 = true → done 7 = true → x55 ≠ x59
  d8 : done 8 = true → done 3 = true ∧ x9 = x55
  d9 : done 9 = true → done 7 = true ∧ x10 = x59
theorem Mk2.begin (W0 : World) {n : Nat} {x55 x59 x9 x10 : Value} : Mk2 W0 n (fun _ => false) x55 x59 x9 x10 W0 :=
  ⟨Below.refl _ _, fun h => (by cases h), fun h => (by cases h), fun h => (by cases h), fun h => (by cases h), fun h => (by cases h)⟩
theorem Mk2.st3 {W0 : World} {n : Nat} {done : Nat → Bool} {x55 x59 x9 x10 : Value} {W W' : World} (H : Mk2 W0 n done x55 x59 x9 x10 W) (hd : done 3 = false) (hb : Below W.heap.size W W') (ho : W'.ownsRow W0.heap.size 3 1 (.slice (some ⟨W.heap.size, 0, none⟩) n n) n (ints (List.replicate n 0))) :
    Mk2 W0 n (fun j => if j = 3 then true else done j) (.slice (some ⟨W.heap.size, 0, none⟩) n n) x59 x9 x10 W' := by
  have f8 : done 8 = false := by
    cases e : done 8 with
    | false => rfl
    | true => have h := (H.d8 e).1; rw [hd] at h; cases h
  refine ⟨H.b.trans (hb.mono H.b.size), fun _ => ⟨_, rfl, ⟨H.b.size, (ho.lt _ rfl).2⟩, ho⟩, fun h => ?_, fun _ h e => ?_, fun h => absurd h (by simp [f8]), fun h => by simpa using H.d9 (by simpa using h)⟩
  · obtain ⟨p, h1, h2, h3⟩ := H.d7 (by simpa using h)
    exact ⟨p, h1, ⟨h2.1, Nat.lt_of_lt_of_le h2.2 hb.size⟩, owns_below h3 hb⟩
  · obtain ⟨p, h1, h2, -⟩ := H.d7 (by simpa using h)
    rw [h1] at e
    have : W.heap.size = p := by simpa using e
    omega
theorem Mk2.st7 {W0 : World} {n : Nat} {done : Nat → Bool} {x55 x59 x9 x10 : Value} {W W' : World} (H : Mk2 W0 n done x55 x59 x9 x10 W) (hd : done 7 = false) (hb : Below W.heap.size W W') (ho : W'.ownsRow W0.heap.size 3 1 (.slice (some ⟨W.heap.size, 0, none⟩) n n) n (ints (List.replicate n 0))) :
    Mk2 W0 n (fun j => if j = 7 then true else done j) x55 (.slice (some ⟨W.heap.size, 0, none⟩) n n) x9 x10 W' := by
  have f9 : done 9 = false := by
    cases e : done 9 with
    | false => rfl
    | true => have h := (H.d9 e).1; rw [hd] at h; cases h
  refine ⟨H.b.trans (hb.mono H.b.size), fun h => ?_, fun _ => ⟨_, rfl, ⟨H.b.size, (ho.lt _ rfl).2⟩, ho⟩, fun h _ e => ?_, fun h => by simpa using H.d8 (by simpa using h), fun h => absurd h (by simp [f9])⟩
  · obtain ⟨p, h1, h2, h3⟩ := H.d3 (by simpa using h)
    exact ⟨p, h1, ⟨h2.1, Nat.lt_of_lt_of_le h2.2 hb.size⟩, owns_below h3 hb⟩
  · obtain ⟨p, h1, h2, -⟩ := H.d3 (by simpa using h)
    rw [h1] at e
    have : p = W.heap.size := by simpa using e
    omega
theorem Mk2.st8 {W0 : World} {n : Nat} {done : Nat → Bool} {x55 x59 x9 x10 : Value} {W : World} (H : Mk2 W0 n done x55 x59 x9 x10 W) (h3 : done 3 = true) : Mk2 W0 n (fun j => if j = 8 then true else done j) x55 x59 x55 x10 W :=
  ⟨H.b, fun h => H.d3 (by simpa using h), fun h => H.d7 (by simpa using h), fun h k => H.ne (by simpa using h) (by simpa using k), fun _ => ⟨by simpa using h3, rfl⟩, fun h => by simpa using H.d9 (by simpa using h)⟩
theorem Mk2.st9 {W0 : World} {n : Nat} {done : Nat → Bool} {x55 x59 x9 x10 : Value} {W : World} (H : Mk2 W0 n done x55 x59 x9 x10 W) (h7 : done 7 = true) : Mk2 W0 n (fun j => if j = 9 then true else done j) x55 x59 x9 x59 W :=
  ⟨H.b, fun h => H.d3 (by simpa using h), fun h => H.d7 (by simpa using h), fun h k => H.ne (by simpa using h) (by simpa using k), fun h => by simpa using H.d8 (by simpa using h), fun _ => ⟨by simpa using h7, rfl⟩⟩
end Go.Proofs.Ytdgibmgifgdpbaa
