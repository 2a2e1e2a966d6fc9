/-
  Parts of the proof, in the order in which they build: EwA.
-/
import Derived.Test.YtkjcnkkmhkcddaaA29
set_option linter.unusedVariables false
set_option linter.unusedSimpArgs false
namespace Go.Proofs.Ytkjcnkkmhkcddaa
open Go.RowKit Go.Shelf
open Lim


/-- the marks' sources behind k plots -/
def fr1 (st : Nat → Bool) (k : Nat) (F0 : Nat → Int) : Nat → Int := fun x => if x < k ∧ st x = true then -1 else F0 x
theorem fr1_zero (st : Nat → Bool) (F0 : Nat → Int) : fr1 st 0 F0 = F0 := by funext x; unfold fr1; rw [if_neg (by omega)]
theorem fr1_add {st : Nat → Bool} {k : Nat} {F0 : Nat → Int} (h : st k = true) : upd (fr1 st k F0) k (-1) = fr1 st (k + 1) F0 := by
  funext x
  by_cases e : x = k
  · subst e; rw [upd_same]; unfold fr1; rw [if_pos ⟨Nat.lt_succ_self _, h⟩]
  · rw [upd_ne _ _ e]
    unfold fr1
    by_cases h2 : x < k ∧ st x = true
    · rw [if_pos h2, if_pos ⟨by omega, h2.2⟩]
    · rw [if_neg h2, if_neg (fun h3 => h2 ⟨by omega, h3.2⟩)]
theorem fr1_skip {st : Nat → Bool} {k : Nat} {F0 : Nat → Int} (h : st k = false) : fr1 st k F0 = fr1 st (k + 1) F0 := by
  funext x
  unfold fr1
  by_cases h2 : x < k ∧ st x = true
  · rw [if_pos h2, if_pos ⟨by omega, h2.2⟩]
  · rw [if_neg h2, if_neg (fun h3 => by
      by_cases e : x = k
      · rw [e, h] at h3; cases h3.2
      · exact h2 ⟨by omega, h3.2⟩)]
theorem DInv.begin {n : Nat} {ed : Nat → Nat → Prop} {St En : Nat → Prop} {st : Nat → Bool} {F0 : Nat → Int} (h : ∀ k, k < n → (st k = true ↔ St k)) (hE : ∀ k, St k → ¬ En k) :
    DInv n ed St En (met1 st n) (fr1 st n F0) (fun _ => 0) 1 (queue1 st n) := by
  have hm : ∀ k, met1 st n k = true → k < n ∧ st k = true := fun k hk => by simpa [met1] using hk
  have hq : ∀ k, met1 st n k = true → k ∈ queue1 st n := fun k hk => by
    obtain ⟨h1, h2⟩ := hm k hk
    simp [queue1, h1, h2]
  refine ⟨⟨fun k hk => (hm k hk).1, fun k hk hs => ?_, fun k hk => .inl ⟨?_, (h k (hm k hk).1).1 (hm k hk).2⟩, fun k _ => Nat.zero_lt_one, fun k hk => ?_⟩, fun k hk => hE k ((h k (hm k hk).1).1 (hm k hk).2), fun k hk hn => absurd (hq k hk) hn⟩
  · simp [met1, hk, (h k hk).2 hs]
  · unfold fr1; rw [if_pos (hm k hk)]
  · have : k < n ∧ st k = true := by simpa [queue1] using hk
    simp [met1, this.1, this.2]
theorem StA.sub {bs lo hi : Nat} {W W' : World} (h : StA bs lo hi W) (hsub : ∀ k, StT bs W' k → StT bs W k) (hb : bs < lo) : StA bs lo hi W' := fun v g hv hg => StT.apart h hb (hsub g (.inr ⟨v, hv, hg⟩))
theorem StM.sepA {T : Nat → Prop} {bs : Nat} {q : List Nat} {W W' : World} (h : StM bs q W) (hs : Sep T W W') (hT : ∀ k, StT bs W k → ¬ T k) : StM bs q W' := by
  obtain ⟨v, h1, h2, h3⟩ := h.ex
  have hb : ¬ T bs := hT bs (.inl rfl)
  exact ⟨v, hs.cell h1 hb, hs.frozen h1 hb h2, hs.owns h3 (fun k hk => hT k (.inr ⟨v, h1, hk⟩))⟩
/-- one can go from a to b -/
def edR (m : Mp) (R : Nat → Nat → Option Int) (a b : Nat) : Prop := nb m a b ∧ (R a b).getD 0 ≠ 0
/-- what reaches keeps -/
structure ReM (w : World) (B bf bm c : Nat) (m : Mp) (oa : Option Addr) (oc : Nat) (ev sv : Value) (R : Nat → Nat → Option Int) (q1 bs : Nat) (M : Nat → Bool) (Fr : Nat → Int) (q : List Nat) (W : World) : Prop where
  gb : w.grownBy W (some bf)
  lt : bf < w.heap.size ∧ bm < w.heap.size ∧ w.heap.size ≤ q1 ∧ q1 < bs
  c1 : W.cell? ⟨q1, 0, none⟩ = some (.pointer (some ⟨bf, 0, none⟩))
  fl : FlE W B bf bm m.n m.wd c oa oc ev sv m.os M Fr R
  st : StM bs q W
section
variable {w : World} {B bf bm c : Nat} {m : Mp} {oa : Option Addr} {oc : Nat} {ev sv : Value} {R : Nat → Nat → Option Int} {q1 bs : Nat} {M : Nat → Bool} {Fr : Nat → Int} {q : List Nat} {W W' : World}
theorem FlE.own {n wd : Nat} {os : List Int} {go oo p : Nat} (h : FlE W B bf bm n wd c (some ⟨go, oo, none⟩) oc ev sv os M Fr R) (hp : p < os.length) : W.cell? ⟨go, oo + p, none⟩ = some (.int .i64 (os.getD p 0)) := by
  obtain ⟨g, o, h1, h2⟩ := cell_of_RS h.row hp
  cases h1; exact h2
theorem ReM.sep {T : Nat → Prop} {q' : List Nat} (h : ReM w B bf bm c m oa oc ev sv R q1 bs M Fr q W) (hs : Sep T W W') (hT : ∀ x, T x → bs ≤ x) (hst : StM bs q' W') : ReM w B bf bm c m oa oc ev sv R q1 bs M Fr q' W' := by
  obtain ⟨l1, l2, l3, l4⟩ := h.lt
  have no : ∀ x, x < bs → ¬ T x := fun x hx h => by have := hT x h; omega
  have hB := h.fl.lt
  exact ⟨⟨hs.os.trans h.gb.os, hs.tape.trans h.gb.tape, hs.output.trans h.gb.output, Nat.le_trans h.gb.size hs.size, fun x h1 h2 => (hs.same x (Nat.lt_of_lt_of_le h1 h.gb.size) (no x (by omega))).trans (h.gb.block x h1 h2)⟩, h.lt, hs.cell h.c1 (no _ (by omega)), h.fl.sep hs (no _ (by omega)) (no _ (by omega)) (fun x hx => by have := hT x hx; omega), hst⟩
theorem ReM.below (h : ReM w B bf bm c m oa oc ev sv R q1 bs M Fr q W) (hb : Below W.heap.size W W') : ReM w B bf bm c m oa oc ev sv R q1 bs M Fr q W' := h.sep (T := fun _ => False) (Sep.of_below hb) (fun _ h => h.elim) (h.st.below hb)
theorem ReM.gset (h : ReM w B bf bm c m oa oc ev sv R q1 bs M Fr q W) (j : Nat) (v : Value) : w.grownBy (W.setCell ⟨bf, j, none⟩ v) (some bf) :=
  ⟨h.gb.os, h.gb.tape, h.gb.output, by have := h.gb.size; simpa [World.setCell] using this, fun k h1 h2 => (heap_set_ne v (fun e => h2 (by rw [e]))).trans (h.gb.block k h1 h2)⟩
theorem ReM.markM (h : ReM w B bf bm c m oa oc ev sv R q1 bs M Fr q W) {p : Nat} (hp : p < 100) : ReM w B bf bm c m oa oc ev sv R q1 bs (updB M p) Fr q (W.setCell ⟨bf, 5 + p, none⟩ (.bool true)) :=
  ⟨h.gset _ _, h.lt, (setCell_far _ _ (by have := h.lt; omega)).trans h.c1, h.fl.setM hp, h.st.sep (Sep.set W bf (5 + p) _) (fun k hk => by rw [hk]; have := h.lt; omega)⟩
theorem ReM.markF (h : ReM w B bf bm c m oa oc ev sv R q1 bs M Fr q W) {p : Nat} (hp : p < 100) (v : Int) : ReM w B bf bm c m oa oc ev sv R q1 bs M (upd Fr p v) q (W.setCell ⟨bf, 105 + p, none⟩ (.int .i64 v)) :=
  ⟨h.gset _ _, h.lt, (setCell_far _ _ (by have := h.lt; omega)).trans h.c1, h.fl.setF hp v, h.st.sep (Sep.set W bf (105 + p) _) (fun k hk => by rw [hk]; have := h.lt; omega)⟩
theorem ReM.steady {B' : Nat} (h : ReM w B bf bm c m oa oc ev sv R q1 bs M Fr q W) (hs : Steady B' W W') (hB : bs ≤ B') : ReM w B bf bm c m oa oc ev sv R q1 bs M Fr q W' := by
  obtain ⟨l1, l2, l3, l4⟩ := h.lt
  have keep : ∀ x, x < w.heap.size → W'.heap[x]? = W.heap[x]? := fun x hx => by
    have hlt : x < W.heap.size := Nat.lt_of_lt_of_le hx h.gb.size
    rw [hs.same x _ (Array.getElem?_eq_getElem hlt) (.inl (by omega)), Array.getElem?_eq_getElem hlt]
  exact ⟨⟨hs.os.trans h.gb.os, hs.tape.trans h.gb.tape, hs.output.trans h.gb.output, Nat.le_trans h.gb.size hs.size, fun x h1 h2 => (keep x h1).trans (h.gb.block x h1 h2)⟩, h.lt, hs.cell h.c1, h.fl.steady hs (h.fl.rm.same (keep bm l2)), h.st.steady hs⟩
end
end Go.Proofs.Ytkjcnkkmhkcddaa
