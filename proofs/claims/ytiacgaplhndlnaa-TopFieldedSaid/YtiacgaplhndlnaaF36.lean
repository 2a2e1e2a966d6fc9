/-
  Parts of the proof, in the order in which they build: CoA, CoM, CoB.
-/
import Derived.Test.YtiacgaplhndlnaaRows
import Derived.Maps.Own
import Derived.Maps.OwnSet
import Derived.Maps.Views
import Derived.DeepKeys4
import Derived.KernelRfl
import Derived.Deep.CutRange
import Derived.Test.YtiacgaplhndlnaaF2
import Derived.Test.YtiacgaplhndlnaaF6
import Derived.Test.YtiacgaplhndlnaaF8
set_option linter.unusedVariables false
set_option linter.unusedSimpArgs false
/-
  A court, in plain words: findings and ranks that are sound, findings that are full; there is one finding that is both.
-/
namespace Go.Proofs.Ytiacgaplhndlnaa

/-- the finding of a claim -/
def fdg (F : List Int) (n : Nat) : Int := F.getD n 0
theorem fdg_set {F : List Int} {n : Nat} {v : Int} (h : n < F.length) (k : Nat) : fdg (F.set n v) k = if k = n then v else fdg F k := by
  unfold fdg
  rw [List.getD_eq_getElem?_getD, List.getD_eq_getElem?_getD, List.getElem?_set]
  by_cases e : n = k
  · subst e; simp [h]
  · rw [if_neg e, if_neg (fun x => e x.symm)]
/-- what is found has its reason, of a lesser rank -/
structure Sound (S : List (Nat × Nat)) (F R : List Int) : Prop where
  le : ∀ n, fdg F n = 0 ∨ fdg F n = 1 ∨ fdg F n = 2
  up : ∀ n, fdg F n = 1 → ∀ b, (b, n) ∈ S → fdg F b = 2 ∧ fdg R b < fdg R n
  dn : ∀ n, fdg F n = 2 → ∃ b, (b, n) ∈ S ∧ fdg F b = 1 ∧ fdg R b < fdg R n
  r0 : ∀ n, 0 ≤ fdg R n
/-- what is open cannot be found -/
def Stuck (S : List (Nat × Nat)) (F : List Int) (n : Nat) : Prop :=
  fdg F n = 0 → (∀ b, (b, n) ∈ S → fdg F b ≠ 1) ∧ ∃ b, (b, n) ∈ S ∧ fdg F b = 0
theorem Sound.agree {S : List (Nat × Nat)} {C : Nat} {F R G T : List Int} (hS : ∀ s ∈ S, s.1 < C) (hF : Sound S F R) (hG : Sound S G T) (fG : ∀ n, n < C → Stuck S G n) :
    ∀ (k n : Nat), fdg R n ≤ k → n < C → fdg F n ≠ 0 → fdg G n = fdg F n := by
  intro k
  induction k using Nat.strongRecOn with
  | _ k ih =>
    intro n hn hc h0
    have low : ∀ b, (b, n) ∈ S → fdg R b < fdg R n → fdg F b ≠ 0 → fdg G b = fdg F b := fun b hb hr h => by
      have h1 := hF.r0 b
      have h2 : (fdg R b).toNat < k := by omega
      exact ih _ h2 b (by omega) (hS _ hb) h
    rcases hF.le n with h | h | h
    · exact absurd h h0
    · rcases hG.le n with g | g | g
      · obtain ⟨b, hb, g1⟩ := (fG n hc g).2
        have h1 := hF.up n h b hb
        have h2 := low b hb h1.2 (by omega)
        omega
      · omega
      · obtain ⟨b, hb, g1, -⟩ := hG.dn n g
        have h1 := hF.up n h b hb
        have h2 := low b hb h1.2 (by omega)
        omega
    · obtain ⟨b, hb, h1, hr⟩ := hF.dn n h
      have h2 := low b hb hr (by omega)
      rcases hG.le n with g | g | g
      · exact absurd (h2.trans h1) ((fG n hc g).1 b hb)
      · have h3 := (hG.up n g b hb).1
        omega
      · omega
/-- there is one finding that is sound and full -/
theorem Sound.unique {S : List (Nat × Nat)} {C : Nat} {F R G T : List Int} (hS : ∀ s ∈ S, s.1 < C) (hF : Sound S F R) (hG : Sound S G T) (fF : ∀ n, n < C → Stuck S F n) (fG : ∀ n, n < C → Stuck S G n) {n : Nat} (hn : n < C) : fdg F n = fdg G n := by
  by_cases h : fdg F n = 0
  · by_cases g : fdg G n = 0
    · omega
    · exact Sound.agree hS hG hF fF (fdg T n).toNat n (by have := hG.r0 n; omega) hn g
  · exact (Sound.agree hS hF hG fG (fdg R n).toNat n (by have := hF.r0 n; omega) hn h).symm
/-- how many are found -/
def nfd (F : List Int) : Nat := F.countP (fun x => decide (x ≠ 0))
theorem nfd_set {F : List Int} {n : Nat} {v : Int} (h : n < F.length) (h0 : fdg F n = 0) (hv : v ≠ 0) : nfd (F.set n v) = nfd F + 1 := by
  unfold nfd
  have e : F[n] = 0 := by
    have : fdg F n = F[n] := by unfold fdg; rw [List.getD_eq_getElem?_getD, List.getElem?_eq_getElem h]; rfl
    rw [← this]; exact h0
  rw [List.countP_set h]
  simp [e, hv]
theorem nfd_le (F : List Int) : nfd F ≤ F.length := List.countP_le_length
/-- a claim can be found: it is struck by one that is upheld, or only by such as are dismissed -/
theorem Sound.down {S : List (Nat × Nat)} {F R : List Int} {n b : Nat} {r : Int} (h : Sound S F R) (hl : n < F.length) (hl2 : n < R.length) (h0 : fdg F n = 0) (hb : (b, n) ∈ S) (h1 : fdg F b = 1) (hr : ∀ b, (b, n) ∈ S → fdg R b < r) (hr1 : 1 ≤ r) : Sound S (F.set n 2) (R.set n r) := by
  refine ⟨fun k => ?_, fun k hk b' hb' => ?_, fun k hk => ?_, fun k => ?_⟩
  · rw [fdg_set hl]; split
    · exact .inr (.inr rfl)
    · exact h.le k
  · rw [fdg_set hl] at hk
    rw [fdg_set hl, fdg_set hl2, fdg_set hl2]
    split at hk
    · cases hk
    · rename_i hne
      have h2 := h.up k hk b' hb'
      have : b' ≠ n := fun e => by rw [e] at h2; omega
      rw [if_neg this, if_neg this, if_neg hne]
      exact h2
  · rw [fdg_set hl] at hk
    by_cases e : k = n
    · subst e
      refine ⟨b, hb, ?_, ?_⟩
      · rw [fdg_set hl, if_neg (fun e => by subst e; omega)]; exact h1
      · rw [fdg_set hl2, fdg_set hl2, if_pos rfl, if_neg (fun e => by subst e; omega)]; exact hr b hb
    · rw [if_neg e] at hk
      obtain ⟨c, hc, g1, g2⟩ := h.dn k hk
      have : c ≠ n := fun e => by rw [e] at g1; omega
      exact ⟨c, hc, by rw [fdg_set hl, if_neg this]; exact g1, by rw [fdg_set hl2, fdg_set hl2, if_neg this, if_neg e]; exact g2⟩
  · rw [fdg_set hl2]; split
    · omega
    · exact h.r0 k
theorem Sound.upheld {S : List (Nat × Nat)} {F R : List Int} {n : Nat} {r : Int} (h : Sound S F R) (hl : n < F.length) (hl2 : n < R.length) (h0 : fdg F n = 0) (hn : ∀ b, (b, n) ∈ S → fdg F b ≠ 1 ∧ fdg F b ≠ 0) (hr : ∀ b, (b, n) ∈ S → fdg R b < r) (hr1 : 1 ≤ r) : Sound S (F.set n 1) (R.set n r) := by
  refine ⟨fun k => ?_, fun k hk b' hb' => ?_, fun k hk => ?_, fun k => ?_⟩
  · rw [fdg_set hl]; split
    · exact .inr (.inl rfl)
    · exact h.le k
  · rw [fdg_set hl] at hk
    rw [fdg_set hl, fdg_set hl2, fdg_set hl2]
    by_cases e : k = n
    · subst e
      have h1 := hn b' hb'
      have : b' ≠ k := fun e => by rw [e] at h1; exact h1.2 h0
      rw [if_neg this, if_neg this, if_pos rfl]
      have := h.le b'
      exact ⟨by omega, hr b' hb'⟩
    · rw [if_neg e] at hk
      have h2 := h.up k hk b' hb'
      have : b' ≠ n := fun e => by rw [e] at h2; omega
      rw [if_neg this, if_neg this, if_neg e]
      exact h2
  · rw [fdg_set hl] at hk
    split at hk
    · cases hk
    · rename_i e
      obtain ⟨c, hc, g1, g2⟩ := h.dn k hk
      have : c ≠ n := fun e => by rw [e] at g1; omega
      exact ⟨c, hc, by rw [fdg_set hl, if_neg this]; exact g1, by rw [fdg_set hl2, fdg_set hl2, if_neg this, if_neg e]; exact g2⟩
  · rw [fdg_set hl2]; split
    · omega
    · exact h.r0 k
/-- the next rank: one more than those of all that strike a claim -/
def nxtR (R : List Int) (n : Nat) : List (Nat × Nat) → Int → Int
  | [], m => m
  | s :: S, m => nxtR R n S (if s.2 = n then (if m < fdg R s.1 + 1 then fdg R s.1 + 1 else m) else m)
theorem nxtR_le (R : List Int) (n : Nat) : ∀ (S : List (Nat × Nat)) (m : Int), m ≤ nxtR R n S m ∧ ∀ b, (b, n) ∈ S → fdg R b < nxtR R n S m
  | [], m => ⟨Int.le_refl _, fun b h => absurd h List.not_mem_nil⟩
  | s :: S, m => by
    have ih := nxtR_le R n S (if s.2 = n then (if m < fdg R s.1 + 1 then fdg R s.1 + 1 else m) else m)
    unfold nxtR
    refine ⟨?_, fun b hb => ?_⟩
    · refine Int.le_trans ?_ ih.1
      split
      · split <;> omega
      · exact Int.le_refl _
    · rcases List.mem_cons.1 hb with e | hb
      · have h1 := ih.1
        subst e
        dsimp only at h1 ⊢
        rw [if_pos rfl] at h1 ⊢
        by_cases h2 : m < fdg R b + 1
        · rw [if_pos h2] at h1 ⊢; omega
        · rw [if_neg h2] at h1 ⊢; omega
      · exact ih.2 b hb
theorem nxtR_top (R : List Int) (n : Nat) {t : Int} (hR : ∀ k, fdg R k < t) : ∀ (S : List (Nat × Nat)) (m : Int), m ≤ t → nxtR R n S m ≤ t
  | [], m, h => h
  | s :: S, m, h => by
    unfold nxtR
    refine nxtR_top R n hR S _ ?_
    have := hR s.1
    split
    · split <;> omega
    · exact h
/-- the first of a list of strikes are those that strike a claim with a finding -/
def strk (F : List Int) (n : Nat) (f : Int) (S : List (Nat × Nat)) : Bool := S.any fun s => decide (s.2 = n) && decide (fdg F s.1 = f)
theorem strk_iff {F : List Int} {n : Nat} {f : Int} {S : List (Nat × Nat)} : strk F n f S = true ↔ ∃ b, (b, n) ∈ S ∧ fdg F b = f := by
  unfold strk
  rw [List.any_eq_true]
  constructor
  · rintro ⟨⟨b, k⟩, h, e⟩
    simp only [Bool.and_eq_true, decide_eq_true_eq] at e
    obtain ⟨rfl, e⟩ := e
    exact ⟨b, h, e⟩
  · rintro ⟨b, h, e⟩
    exact ⟨(b, n), h, by simp [e]⟩
/-- the state of a hearing -/
structure Court (S : List (Nat × Nat)) (C : Nat) (F R : List Int) : Prop where
  s : Sound S F R
  f14 : F.length = 14
  r14 : R.length = 14
  top : ∀ k, fdg R k ≤ nfd F
theorem Court.zero (S : List (Nat × Nat)) (C : Nat) : Court S C (List.replicate 14 0) (List.replicate 14 0) := by
  have e : ∀ k, fdg (List.replicate 14 0) k = 0 := fun k => by
    unfold fdg
    rw [List.getD_eq_getElem?_getD, List.getElem?_replicate]
    split <;> rfl
  refine ⟨⟨fun n => .inl (e n), fun n h => (by rw [e] at h; omega), fun n h => (by rw [e] at h; omega), fun n => (by rw [e]; omega)⟩, by simp, by simp, fun k => by rw [e]; omega⟩
/-- what hearing a claim makes of the findings and ranks -/
def hearS (S : List (Nat × Nat)) (F R : List Int) (n : Nat) : List Int × List Int :=
  if fdg F n ≠ 0 then (F, R)
  else if strk F n 1 S = true then (F.set n 2, R.set n (nxtR R n S 1))
  else if strk F n 0 S = true then (F, R)
  else (F.set n 1, R.set n (nxtR R n S 1))
theorem Court.hear {S : List (Nat × Nat)} {C : Nat} {F R : List Int} (h : Court S C F R) {n : Nat} (hn : n < 14) : Court S C (hearS S F R n).1 (hearS S F R n).2 ∧
    ((hearS S F R n).1 = F ∧ (hearS S F R n).2 = R ∧ Stuck S F n ∨ nfd (hearS S F R n).1 = nfd F + 1) := by
  have hl : n < F.length := by rw [h.f14]; exact hn
  have hl2 : n < R.length := by rw [h.r14]; exact hn
  have hx := nxtR_le R n S 1
  have ht := nxtR_top R n (t := (nfd F : Int) + 1) (fun k => by have := h.top k; omega) S 1 (by omega)
  have top : ∀ v : Int, v ≠ 0 → fdg F n = 0 → ∀ k, fdg (R.set n (nxtR R n S 1)) k ≤ nfd (F.set n v) := fun v hv h0 k => by
    rw [nfd_set hl h0 hv, fdg_set hl2]
    have := h.top k
    split <;> omega
  unfold hearS
  split
  · rename_i h0
    exact ⟨h, .inl ⟨rfl, rfl, fun e => absurd e h0⟩⟩
  · rename_i h0
    have h0 : fdg F n = 0 := by simpa using h0
    split
    · rename_i h1
      obtain ⟨b, hb, g⟩ := strk_iff.1 h1
      exact ⟨⟨h.s.down hl hl2 h0 hb g hx.2 hx.1, by simp [h.f14], by simp [h.r14], top 2 (by omega) h0⟩, .inr (nfd_set hl h0 (by omega))⟩
    · rename_i h1
      split
      · rename_i h2
        exact ⟨h, .inl ⟨rfl, rfl, fun _ => ⟨fun b hb e => h1 (strk_iff.2 ⟨b, hb, e⟩), strk_iff.1 h2⟩⟩⟩
      · rename_i h2
        exact ⟨⟨h.s.upheld hl hl2 h0 (fun b hb => ⟨fun e => h1 (strk_iff.2 ⟨b, hb, e⟩), fun e => h2 (strk_iff.2 ⟨b, hb, e⟩)⟩) hx.2 hx.1, by simp [h.f14], by simp [h.r14], top 1 (by omega) h0⟩, .inr (nfd_set hl h0 (by omega))⟩
end Go.Proofs.Ytiacgaplhndlnaa
/-
  Maps from strikes to marks, in plain words.
-/
namespace Go.Proofs.Ytiacgaplhndlnaa
open Go Go.RowKit Go.ChangeMaps Go.WideShapes
open Go.WideElems (rg)
namespace Lim

theorem succ_of_lt {a n : Nat} (h : a < n) : ∃ d, n = d + 1 := ⟨n - 1, by omega⟩
theorem laidOutT : laidOutB Try.prog = true := by kernel_rfl
theorem rowStr : (38 : TypeId) < Try.prog.types.size := of_decide_eq_true (by kernel_rfl)
theorem wideStr : (match Try.prog.underlying 38 with | some (.array _ _) | some (.struct _) => true | _ => false) = true := by rw [Try.underlying38]
set_option maxRecDepth 100000 in
theorem keyStr : Maps.Keyed Try.prog 38 := Maps.Keyed.of_law (deep_law_laid laidOutT (m := 2) (by omega) rowStr (by kernel_rfl) wideStr)
theorem cellsStr : Try.prog.cellsOf 38 = 2 := by kernel_rfl
theorem cellsIntT : Try.prog.cellsOf 3 = 1 := by kernel_rfl
set_option maxRecDepth 100000 in
theorem typeStr : Try.prog.keyType 38 = true := by kernel_rfl
/-- a strike as a key -/
def strV (x y : Nat) : Value := .agg #[.int .i64 x, .int .i64 y]
def strL (x y : Nat) : Lit := .string (keyBytes [.int .i64 x, .int .i64 y])
theorem keyOf_str {x y : Nat} (hx : x < 1000) (hy : y < 1000) : keyOf Try.prog 38 (strV x y) = some (strL x y) := by
  have h1 : (Lit.int .i64 (x : Int)).wf = true := WalkArith.wf_i64 ⟨by omega, by omega⟩
  have h2 : (Lit.int .i64 (y : Int)).wf = true := WalkArith.wf_i64 ⟨by omega, by omega⟩
  have hf : (strV x y).formed Try.prog 38 = true := by simp [strV, Value.formed, Try.underlying38, cellsStr]
  have hk := typeStr
  obtain ⟨d, hd⟩ : ∃ d, Try.prog.types.size = d + 1 := succ_of_lt rowStr
  have hl : Try.prog.keyLits (Try.prog.types.size + 1) 38 (strV x y).cells.toList = some [.int .i64 x, .int .i64 y] := by
    rw [hd]
    simp [Program.keyLits, Try.underlying38, strV, Value.cells, cellsStr, cellsIntT, Try.underlying3, h1, h2]
  unfold keyOf
  rw [Try.underlying38]
  simp only [hk, hf, hl, Bool.and_self, if_true, Option.map_some]
  rfl
theorem strL_inj {x y x' y' : Nat} (hx : x < 1000) (hy : y < 1000) (hx' : x' < 1000) (hy' : y' < 1000) : strL x y = strL x' y' ↔ x = x' ∧ y = y' := by
  refine ⟨fun h => ?_, fun h => by rw [h.1, h.2]⟩
  have := keyStr.inj (keyOf_str hx hy) (h ▸ keyOf_str hx' hy')
  simp only [strV, Value.agg.injEq, Array.mk.injEq, List.cons.injEq, Value.int.injEq, true_and, and_true] at this
  omega
theorem bool_inv {P : Program} {e : TypeId} (he : P.underlying e = some .bool) {v : Value} {z : DataW Unit × List MemPlace} (h : plainElem P e v = some z) : ∃ a, v = .bool a ∧ z = (.lit (.bool a), []) := by
  unfold plainElem at h
  rw [he] at h
  cases v <;> simp at h
  exact ⟨_, rfl, h.symm⟩
/-- block b is a map of at most n strikes that marks those of F -/
def MapT (w : World) (b n : Nat) (F : Nat → Nat → Bool) : Prop := ∃ D : DataW Unit, w.ownsMap Try.prog 38 (plainElem Try.prog 4) b n D ∧
  ∀ x y : Nat, x < 1000 → y < 1000 → D.atKey (strL x y) (.lit (.bool false)) = .lit (.bool (F x y))
theorem MapT.made (w : World) : MapT (w.alloc (.map #[] 0)) w.heap.size 0 (fun _ _ => false) := ⟨.map [], World.ownsMap_made _ _ _ _, fun x y _ _ => by simp [DataW.atKey]⟩
theorem MapT.kept {w w' : World} {b n : Nat} {F : Nat → Nat → Bool} {row : Option Nat} (h : MapT w b n F) (hg : w.grownBy w' row) (hne : some b ≠ row) : MapT w' b n F := ⟨h.choose, h.choose_spec.1.kept hg hne, h.choose_spec.2⟩
theorem MapT.lt {w : World} {b n : Nat} {F : Nat → Nat → Bool} (h : MapT w b n F) : b < w.heap.size := h.choose_spec.1.lt
theorem MapT.same {w w' : World} {b n : Nat} {F : Nat → Nat → Bool} (h : MapT w b n F) (hs : w'.heap[b]? = w.heap[b]?) : MapT w' b n F := by
  obtain ⟨D, ⟨es, clock, hb, r⟩, h2⟩ := h
  exact ⟨D, ⟨es, clock, hs.trans hb, r⟩, h2⟩
theorem MapT.lookup {w : World} {b n : Nat} {F : Nat → Nat → Bool} (h : MapT w b n F) {x y : Nat} (hx : x < 1000) (hy : y < 1000) :
    (Instr.lookup 217 (.map (some b)) (.agg #[.int .i64 x, .int .i64 y]) false).run Try.prog w = .ok (.bool (F x y)) w := by
  obtain ⟨D, hD, hF⟩ := h
  obtain ⟨v, ps, hrun, hat⟩ := hD.lookup keyStr Try.underlying217 (z := .bool false) (by kernel_rfl) (plainElem_bool Try.underlying4 false) (keyOf_str hx hy)
  obtain ⟨a, rfl, e⟩ := bool_inv Try.underlying4 hat
  rw [hF x y hx hy] at e
  simp at e
  rw [e.1]
  exact hrun
theorem MapT.update {w : World} {b n : Nat} {F : Nat → Nat → Bool} (h : MapT w b n F) (hn : n < maxLen) {x y : Nat} (hx : x < 1000) (hy : y < 1000) {v : Bool} :
    ∃ w', (Instr.mapUpdate 217 (.map (some b)) (.agg #[.int .i64 x, .int .i64 y]) (.bool v)).run Try.prog w = .ok () w' ∧ MapT w' b (n + 1) (fun a c => if a = x ∧ c = y then v else F a c) ∧ w.grownBy w' (some b) := by
  obtain ⟨D, hD, hF⟩ := h
  obtain ⟨w', hrun, hD', hg⟩ := hD.update keyStr Try.underlying217 hn (keyOf_str hx hy) (plainElem_bool Try.underlying4 v)
  refine ⟨w', hrun, ⟨_, hD', fun a c ha hc => ?_⟩, hg⟩
  by_cases e : a = x ∧ c = y
  · obtain ⟨rfl, rfl⟩ := e
    rw [Go.Maps.atKey_put_same (k := strL a c) hD.isMap trivial]; simp
  · have e' : strL a c ≠ strL x y := fun h => e ((strL_inj ha hc hx hy).mp h)
    rw [Go.Maps.atKey_put_other (by simpa using e'), hF a c ha hc]; simp [e]
end Lim
end Go.Proofs.Ytiacgaplhndlnaa
/-
  The small functions of package court: from, claimed, strange; what slices.ContainsFunc answers of strikes, and of no numbers; none; Check.
-/
namespace Go.Proofs.Ytiacgaplhndlnaa
open Go.RowKit Go.Shelf
open Lim


def stk (S : List (Nat × Nat)) : List (Int × Int) := S.map fun s => ((s.1 : Int), (s.2 : Int))
theorem stk_length (S : List (Nat × Nat)) : (stk S).length = S.length := by simp [stk]
theorem stk_at {S : List (Nat × Nat)} {k : Nat} (h : k < S.length) : (stk S).getD k (0, 0) = (((S.getD k (0, 0)).1 : Int), ((S.getD k (0, 0)).2 : Int)) := by
  simp [stk, List.getD_eq_getElem?_getD, h]
theorem strike_cells {B : Nat} {v : Value} {S : List (Nat × Nat)} {w : World} (hv : RS B w v S.length (spans (stk S))) {k : Nat} (h : k < S.length) : ∃ b off cap, v = .slice (some ⟨b, off, none⟩) S.length cap ∧ w.cell? ⟨b, off + k * 2, none⟩ = some (.int .i64 (S.getD k (0, 0)).1) ∧ w.cell? ⟨b, off + k * 2 + 1, none⟩ = some (.int .i64 (S.getD k (0, 0)).2) := by
  obtain ⟨a, cap, rfl, hc⟩ := hv
  obtain ⟨b, off, rfl, hb, hcell⟩ := hc (spans_ne (by rw [stk_length]; omega))
  have h1 := hcell _ _ (spans_lo (stk S) k (by rw [stk_length]; exact h))
  have h2 := hcell _ _ (spans_hi (stk S) k (by rw [stk_length]; exact h))
  have e : (stk S)[k]'(by rw [stk_length]; exact h) = (((S.getD k (0, 0)).1 : Int), ((S.getD k (0, 0)).2 : Int)) := by
    have := stk_at h
    rw [List.getD_eq_getElem?_getD, List.getElem?_eq_getElem (by rw [stk_length]; exact h)] at this
    exact this
  rw [e] at h1 h2
  exact ⟨b, off, cap, rfl, h1, h2⟩
set_option maxHeartbeats 400000 in
theorem cfrom_any (n a b : Int) (w : World) : Calls Try.prog 42 #[.int .i64 n, .int .i64 a, .int .i64 b] w fun e w' => e = .returned (.bool (inB n a b)) ∧ w = w' := by
  by_cases h1 : a ≤ n
  · have hd : decide (a ≤ n) = true := by simpa using h1
    by_cases h2 : n ≤ b
    · rw [inB_true h1 h2]
      go_enter Try.func42, Try.ntmps42
      go_wp2
      go_ret
      exact ⟨rfl, rfl⟩
    · rw [inB_false (.inr (by omega))]
      have hd2 : decide (n ≤ b) = false := by simpa using h2
      go_enter Try.func42, Try.ntmps42
      go_wp2
      go_ret
      exact ⟨rfl, rfl⟩
  · rw [inB_false (.inl (by omega))]
    have hd : decide (a ≤ n) = false := by simpa using h1
    go_enter Try.func42, Try.ntmps42
    go_wp2
    go_ret
    exact ⟨rfl, rfl⟩

set_option maxHeartbeats 400000 in
theorem claimed_any {C sn sc : Nat} {sa : Option Addr} (hC : C ≤ 1000) (n : Int) (w : World) : Calls Try.prog 111 #[.agg #[.int .i64 C, .slice sa sn sc, .slice none 0 0], .int .i64 n] w fun e w' => e = .returned (.bool (inB n 0 ((C : Int) - 1))) ∧ Below w.heap.size w w' := by
  have HB := Lib.hid ((Below.refl _ w).alloc (Nat.le_refl _) (.cells #[.int .i64 C, .slice sa sn sc, .slice none 0 0] 36))
  have hw : IntKind.i64.wrap ((C : Int) - 1) = (C : Int) - 1 := IntWalk.i64_in _ (by omega)
  go_enter Try.func111, Try.ntmps111
  go_wp2_with fail
  refine (cfrom_any _ _ _ _).mono ?_
  rintro e w1 ⟨rfl, rfl⟩
  go_wp2
  go_ret
  exact ⟨rfl, HB.out⟩
set_option maxHeartbeats 400000 in
theorem strange_any {C sn sc : Nat} {sa : Option Addr} (hC : C ≤ 1000) (n : Int) (w : World) : Calls Try.prog 72 #[.agg #[.int .i64 C, .slice sa sn sc, .slice none 0 0], .int .i64 n] w fun e w' => e = .returned (.bool (!inB n 0 ((C : Int) - 1))) ∧ Below w.heap.size w w' := by
  have HB := Lib.hid ((Below.refl _ w).alloc (Nat.le_refl _) (.cells #[.int .i64 C, .slice sa sn sc, .slice none 0 0] 36))
  go_enter Try.func72, Try.ntmps72
  go_wp2_with fail
  refine (claimed_any hC _ _).mono ?_
  rintro e w1 ⟨rfl, hb⟩
  have HB1 := Lib.hid (HB.out.trans (hb.mono HB.out.size))
  clear hb
  go_wp2
  go_ret
  exact ⟨rfl, HB1.out⟩
set_option maxRecDepth 20000 in
set_option maxHeartbeats 400000 in
theorem indexFunc_strikes {B f : Nat} {lb : Array Value} {p : Nat → Bool} {v : Value} {xs : List (Int × Int)} {w : World} (eg : ∀ args w, (callFunc f args).run Try.prog w = .ok (.enter f args) w) (hn : xs.length ≤ 100000) (hv : RS B w v xs.length (spans xs)) (hB : B ≤ w.heap.size)
    (hf : Says f lb xs.length (fun k => .agg #[.int .i64 (xs.getD k (0, 0)).1, .int .i64 (xs.getD k (0, 0)).2]) p w) :
    Calls Try.prog 171 #[v, .func (.func f) #[] lb] w fun e w' => (∃ r : Int, e = .returned (.int .i64 r) ∧ (0 ≤ r ↔ ∃ k, k < xs.length ∧ p k = true)) ∧ Below w.heap.size w w' := by
  obtain ⟨a, cap, rfl, hc⟩ := hv
  have HF := Lib.hid hf
  clear hf
  go_enter Try.func171, Try.ntmps171
  go_wp2
  go_loopw [8] (fun i wr => ∃ k : Nat, k ≤ xs.length ∧ i = .int .i64 k ∧ Hid (∀ j, j < k → p j = false) ∧ Below w.heap.size w wr) (fun i _ => xs.length - (intOf i).toNat)
  case atStart => exact ⟨0, Nat.zero_le _, rfl, Lib.hid (by intro j hj; omega), Below.refl _ _⟩
  case round =>
    obtain ⟨k, hk, rfl, hno, hbr⟩ := hrel
    by_cases hlt : k < xs.length
    · obtain ⟨b, off, rfl, hb, hcell⟩ := hc (spans_ne (by omega))
      have H := Lib.hid (HF.out k hlt wr hbr)
      obtain ⟨y, hy⟩ : ∃ y, y = (xs.getD k (0, 0)).1 := ⟨_, rfl⟩
      obtain ⟨u, hu⟩ : ∃ u, u = (xs.getD k (0, 0)).2 := ⟨_, rfl⟩
      simp only [← hy, ← hu] at H
      have hck : wr.cell? ⟨b, off + k * 2, none⟩ = some (.int .i64 y) := by rw [hy, List.getD_eq_getElem?_getD, List.getElem?_eq_getElem hlt]; exact cell_below hbr (hcell _ _ (spans_lo _ k hlt)) (by simp; omega)
      have hck2 : wr.cell? ⟨b, off + k * 2 + 1, none⟩ = some (.int .i64 u) := by rw [hu, List.getD_eq_getElem?_getD, List.getElem?_eq_getElem hlt]; exact cell_below hbr (hcell _ _ (spans_hi _ k hlt)) (by simp; omega)
      clear hc hcell hy hu
      go_wp2_with fail
      refine H.out.mono ?_
      rintro e w2 ⟨rfl, hb2⟩
      have hb3 : Below w.heap.size w w2 := hbr.trans (hb2.mono hbr.size)
      cases hp : p k with
      | true =>
        go_wp2
        go_ret
        exact ⟨⟨k, rfl, ⟨fun _ => ⟨k, hlt, hp⟩, fun _ => Int.natCast_nonneg _⟩⟩, hb3⟩
      | false =>
        go_wp2
        go_roundw
        case rel =>
          refine ⟨k + 1, by omega, by go_num, Lib.hid (fun j hj => ?_), hb3⟩
          by_cases e : j = k
          · rw [e]; exact hp
          · exact hno.out j (by omega)
        case measure => simp [intOf]; omega
    · obtain rfl : k = xs.length := by omega
      go_wp2
      go_ret
      exact ⟨⟨-1, rfl, ⟨fun h => by omega, fun ⟨k, hk, hp⟩ => by rw [hno.out k hk] at hp; cases hp⟩⟩, hbr⟩
set_option maxHeartbeats 400000 in
theorem containsFunc_strikes {B f : Nat} {lb : Array Value} {p : Nat → Bool} {v : Value} {xs : List (Int × Int)} {w : World} (eg : ∀ args w, (callFunc f args).run Try.prog w = .ok (.enter f args) w) (hn : xs.length ≤ 100000) (hv : RS B w v xs.length (spans xs)) (hB : B ≤ w.heap.size)
    (hf : Says f lb xs.length (fun k => .agg #[.int .i64 (xs.getD k (0, 0)).1, .int .i64 (xs.getD k (0, 0)).2]) p w) :
    Calls Try.prog 160 #[v, .func (.func f) #[] lb] w fun e w' => e = .returned (.bool ((List.range xs.length).any p)) ∧ Below w.heap.size w w' := by
  have HV := Lib.hid (And.intro hv hf)
  obtain ⟨a, cap, rfl, hc⟩ := hv
  clear hc hf
  go_enter Try.func160, Try.ntmps160
  go_wp2_with fail
  refine (indexFunc_strikes eg hn HV.out.1 hB HV.out.2).mono ?_
  rintro e w' ⟨⟨r, rfl, hr⟩, hb⟩
  have HR := Lib.hid hr
  clear hr
  go_wp2
  go_ret
  have e : decide (0 ≤ r) = (List.range xs.length).any p := by
    rw [Bool.eq_iff_iff, decide_eq_true_iff, HR.out, List.any_eq_true]
    exact ⟨fun ⟨k, h1, h2⟩ => ⟨k, List.mem_range.2 h1, h2⟩, fun ⟨k, h1, h2⟩ => ⟨k, List.mem_range.1 h1, h2⟩⟩
  exact ⟨by rw [← e]; rfl, hb⟩


set_option maxHeartbeats 400000 in
theorem none_nil (F : Value) (w : World) : Calls Try.prog 40 #[.slice none 0 0, F] w fun e w' => e = .returned (.bool true) ∧ w' = w := by
  have h1 : Calls Try.prog 105 #[.slice none 0 0, F] w fun e w' => e = .returned (.int .i64 (-1)) ∧ w' = w := by
    go_enter Try.func105, Try.ntmps105
    go_wp2
    go_loop [8] (fun i => i = .int .i64 0) (fun _ => 0)
    case atStart => rfl
    case round =>
      subst hrel
      go_wp2
      go_ret
      exact ⟨rfl, rfl⟩
  have H1 := Lib.hid h1
  clear h1
  have h2 : Calls Try.prog 88 #[.slice none 0 0, F] w fun e w' => e = .returned (.bool false) ∧ w' = w := by
    go_enter Try.func88, Try.ntmps88
    go_wp2_with fail
    refine H1.out.mono ?_
    rintro e w1 ⟨rfl, rfl⟩
    go_wp2
    go_ret
    exact ⟨rfl, rfl⟩
  have H2 := Lib.hid h2
  clear h2
  go_enter Try.func40, Try.ntmps40
  go_wp2_with fail
  refine H2.out.mono ?_
  rintro e w1 ⟨rfl, rfl⟩
  go_wp2
  go_ret
  exact ⟨rfl, rfl⟩
end Go.Proofs.Ytiacgaplhndlnaa
