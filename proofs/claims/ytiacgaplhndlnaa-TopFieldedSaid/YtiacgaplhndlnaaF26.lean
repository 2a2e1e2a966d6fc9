/-
  Parts of the proof, in the order in which they build: SiA, SiN.
-/
import Derived.Test.YtiacgaplhndlnaaF3
import Derived.Test.YtiacgaplhndlnaaF25
set_option linter.unusedVariables false
set_option linter.unusedSimpArgs false
/-
  Files of dated papers, in plain words and in memory: which are right, chains, and the papers with which rights arise.
-/
namespace Go.Proofs.Ytiacgaplhndlnaa
open Go.RowKit Go.Shelf
open Lim

/-- a paper: its side, and the span of its year -/
structure Pap where
  s : Int
  lo : Int
  hi : Int
/-- a file -/
structure Fil11 where
  years : Int
  gap : Int
  P : List Pap
def Fil11.n (f : Fil11) : Nat := f.P.length
def Fil11.at (f : Fil11) (k : Nat) : Pap := f.P.getD k ⟨0, 0, 0⟩
structure Fil11.Ok (f : Fil11) : Prop where
  y : 1 ≤ f.years ∧ f.years ≤ 500
  g : 1 ≤ f.gap ∧ f.gap ≤ 200
  n : f.n ≤ 16
  s : ∀ k, k < f.n → (f.at k).s = 0 ∨ (f.at k).s = 1
  lo : ∀ k, k < f.n → 0 ≤ (f.at k).lo ∧ (f.at k).lo ≤ 3000
  hi : ∀ k, k < f.n → (f.at k).lo ≤ (f.at k).hi ∧ (f.at k).hi ≤ 3000 ∧ (f.at k).hi ≤ (f.at k).lo + 3
  up : ∀ k, k + 1 < f.n → (f.at k).hi < (f.at (k + 1)).lo
/-- a truth of a file -/
def Fil11.Is (f : Fil11) (T : List Int) : Prop := T.length = f.n ∧ ∀ k, k < f.n → (f.at k).lo ≤ T.getD k 0 ∧ T.getD k 0 ≤ (f.at k).hi
/-- a paper goes on the chain of the one ahead of it -/
def goesB (f : Fil11) (i : Nat) (year ahead : Int) : Bool := decide (0 < i) && decide ((f.at i).s = (f.at (i - 1)).s) && decide (year - ahead ≤ f.gap)
/-- the last span of a list ends at i -/
def endAt (i : Int) : List (Int × Int) → List (Int × Int)
  | [] => []
  | [c] => [(c.1, i)]
  | c :: d :: l => c :: endAt i (d :: l)
def chainsTo (f : Fil11) (T : List Int) : Nat → List (Int × Int)
  | 0 => []
  | i + 1 => if 0 < i ∧ goesB f i (T.getD i 0) (T.getD (i - 1) 0) = true then endAt i (chainsTo f T i) else chainsTo f T i ++ [((i : Int), (i : Int))]
/-- the first of m places from lo on at which so many years are over -/
def firstM (f : Fil11) (T : List Int) (lo : Nat) : Nat → Option Nat
  | 0 => none
  | m + 1 => match firstM f T lo m with
    | some x => some x
    | none => if f.years ≤ T.getD (lo + m) 0 - T.getD lo 0 then some (lo + m) else none
def firstB (f : Fil11) (T : List Int) (c : Int × Int) : Option Nat := firstM f T c.1.toNat (c.2 + 1 - c.1).toNat
def hasB (f : Fil11) (T : List Int) (p : Nat) : Bool := (chainsTo f T f.n).any fun c => decide (firstB f T c = some p)
def arisesL (f : Fil11) (T : List Int) : Nat → List Int
  | 0 => []
  | k + 1 => arisesL f T k ++ (if hasB f T k = true then [(k : Int)] else [])
theorem arisesL_lt (f : Fil11) (T : List Int) : ∀ k, ∀ x ∈ arisesL f T k, 0 ≤ x ∧ x < k
  | 0, x, h => absurd h List.not_mem_nil
  | k + 1, x, h => by
    rw [arisesL] at h
    rcases List.mem_append.1 h with h | h
    · have := arisesL_lt f T k x h; omega
    · split at h
      · rw [List.mem_singleton.1 h]; omega
      · cases h
theorem arisesL_len (f : Fil11) (T : List Int) : ∀ k, (arisesL f T k).length ≤ k
  | 0 => Nat.le_refl _
  | k + 1 => by
    rw [arisesL, List.length_append]
    have := arisesL_len f T k
    split <;> simp <;> omega
theorem endAt_len (i : Int) : ∀ l : List (Int × Int), (endAt i l).length = l.length
  | [] => rfl
  | [c] => rfl
  | c :: d :: l => by
    have := endAt_len i (d :: l)
    show (endAt i (d :: l)).length + 1 = _
    rw [this]; rfl
theorem endAt_snoc (i : Int) (c : Int × Int) : ∀ l : List (Int × Int), endAt i (l ++ [c]) = l ++ [(c.1, i)]
  | [] => rfl
  | [d] => rfl
  | d :: e :: l => by
    have := endAt_snoc i c (e :: l)
    show d :: endAt i ((e :: l) ++ [c]) = _
    rw [this]; rfl
/-- chains lie within the file, and there is one as soon as there is a paper -/
theorem chainsTo_ok (f : Fil11) (T : List Int) : ∀ k, (∀ c ∈ chainsTo f T k, 0 ≤ c.1 ∧ c.1 ≤ c.2 ∧ c.2 < k) ∧ (chainsTo f T k).length ≤ k ∧ (0 < k → 0 < (chainsTo f T k).length)
  | 0 => ⟨fun c h => absurd h List.not_mem_nil, Nat.le_refl _, fun h => absurd h (Nat.lt_irrefl _)⟩
  | k + 1 => by
    have ih := chainsTo_ok f T k
    rw [chainsTo]
    split
    · rename_i h
      refine ⟨?_, by rw [endAt_len]; omega, fun _ => by rw [endAt_len]; exact ih.2.2 h.1⟩
      intro c hc
      rcases List.eq_nil_or_concat (chainsTo f T k) with e | ⟨l, d, e⟩
      · rw [e] at hc; cases hc
      · rw [e, List.concat_eq_append, endAt_snoc] at hc
        rcases List.mem_append.1 hc with hc | hc
        · have := ih.1 c (by rw [e, List.concat_eq_append]; exact List.mem_append_left _ hc)
          omega
        · have := ih.1 d (by rw [e, List.concat_eq_append]; exact List.mem_append_right _ (List.mem_singleton.2 rfl))
          rw [List.mem_singleton.1 hc]
          dsimp only
          omega
    · refine ⟨?_, by simp; omega, fun _ => by simp⟩
      intro c hc
      rcases List.mem_append.1 hc with hc | hc
      · have := ih.1 c hc; omega
      · rw [List.mem_singleton.1 hc]
        dsimp only
        omega
/-- who has it: the side of the last paper with which a right arises -/
def ownerF (f : Fil11) (T : List Int) : Int := match (arisesL f T f.n).getLast? with
  | none => 2
  | some x => (f.at x.toNat).s
theorem ownerF_range {f : Fil11} (h : f.Ok) (T : List Int) : 0 ≤ ownerF f T ∧ ownerF f T ≤ 2 := by
  unfold ownerF
  cases e : (arisesL f T f.n).getLast? with
  | none => simp
  | some x =>
    have hx := List.mem_of_getLast? e
    have h1 := arisesL_lt f T f.n x hx
    have := h.s x.toNat (by omega)
    show 0 ≤ (f.at x.toNat).s ∧ (f.at x.toNat).s ≤ 2
    omega
/-- papers as cells -/
def paps (P : List Pap) : List Value := P.flatMap fun p => [.int .i64 p.s, .int .i64 p.lo, .int .i64 p.hi]
theorem paps_cons (p : Pap) (P : List Pap) : paps (p :: P) = .int .i64 p.s :: .int .i64 p.lo :: .int .i64 p.hi :: paps P := by simp [paps]
theorem paps_snoc (P : List Pap) (p : Pap) : paps (P ++ [p]) = paps P ++ [.int .i64 p.s, .int .i64 p.lo, .int .i64 p.hi] := by simp [paps]
theorem paps_length (P : List Pap) : (paps P).length = P.length * 3 := by
  induction P with
  | nil => rfl
  | cons p P ih => rw [paps_cons]; simp only [List.length_cons]; omega
theorem paps_at (P : List Pap) : ∀ (k : Nat) (h : k < P.length), (paps P)[k * 3]? = some (.int .i64 P[k].s) ∧ (paps P)[k * 3 + 1]? = some (.int .i64 P[k].lo) ∧ (paps P)[k * 3 + 2]? = some (.int .i64 P[k].hi) := by
  induction P with
  | nil => intro k h; simp at h
  | cons p P ih =>
    intro k h
    rw [paps_cons]
    cases k with
    | zero => simp
    | succ k =>
      have := ih k (by simpa using h)
      rw [show (k + 1) * 3 = k * 3 + 1 + 1 + 1 from by omega]
      simpa using this
theorem paps_ne {P : List Pap} (h : 0 < P.length) : paps P ≠ [] := by cases P <;> simp_all [paps]
theorem pap_cells {B : Nat} {v : Value} {f : Fil11} {w : World} (hv : RS B w v f.n (paps f.P)) {k : Nat} (h : k < f.n) : ∃ b off cap, v = .slice (some ⟨b, off, none⟩) f.n cap ∧ w.cell? ⟨b, off + k * 3, none⟩ = some (.int .i64 (f.at k).s) ∧ w.cell? ⟨b, off + k * 3 + 1, none⟩ = some (.int .i64 (f.at k).lo) ∧ w.cell? ⟨b, off + k * 3 + 2, none⟩ = some (.int .i64 (f.at k).hi) := by
  obtain ⟨a, cap, rfl, hc⟩ := hv
  obtain ⟨b, off, rfl, hb, hcell⟩ := hc (paps_ne (by unfold Fil11.n at h; omega))
  obtain ⟨h1, h2, h3⟩ := paps_at f.P k h
  have e : f.P[k] = f.at k := by unfold Fil11.at; rw [List.getD_eq_getElem?_getD, List.getElem?_eq_getElem h]; rfl
  rw [e] at h1 h2 h3
  exact ⟨b, off, cap, rfl, hcell _ _ h1, hcell _ _ h2, hcell _ _ h3⟩
end Go.Proofs.Ytiacgaplhndlnaa
/-
  A deck whose bytes are named.
-/
namespace Go.Proofs.Ytiacgaplhndlnaa
open Go.RowKit Go.Shelf
open Lim

attribute [local go_sem] Oper.semAt_some
section
variable {cv : Value} {dl : List Int} {d c : Nat} {W W' : World}
def DeckF (cv : Value) (dl : List Int) (W : World) (d n : Nat) : Prop := ∃ k s : Int, Dk W d cv dl k s ∧ k ≤ n
def DealtF (cv : Value) (dl : List Int) (d c : Nat) (w w' : World) : Prop := DeckF cv dl w' d (c + 1) ∧ w.grownBy w' (some d) ∧ w'.heap.size = w.heap.size
theorem DeckF.plain (h : DeckF cv dl W d c) : Deck W d c := by
  obtain ⟨k, s, h, hk⟩ := h
  exact ⟨cv, dl, k, s, h, hk⟩
theorem DeckF.lt (h : DeckF cv dl W d c) : d < W.heap.size := h.plain.lt
theorem DealtF.plain (h : DealtF cv dl d c W W') : Dealt d c W W' := ⟨h.1.plain, h.2⟩
theorem DeckF.more (h : DeckF cv dl W d c) {c' : Nat} (hc : c ≤ c') : DeckF cv dl W d c' := by
  obtain ⟨k, s, h, hk⟩ := h
  exact ⟨k, s, h, by omega⟩
/-- the deck's own block and all below it are kept -/
theorem DeckF.keep (h : DeckF cv dl W d c) (he : W'.heap[d]? = W.heap[d]?) (hb : Below d W W') : DeckF cv dl W' d c := by
  obtain ⟨k, s, hd, hk⟩ := h
  exact ⟨k, s, ⟨⟨(World.cell?_of_block he).trans hd.c.1, (World.cell?_of_block he).trans hd.c.2.1, (World.cell?_of_block he).trans hd.c.2.2⟩, ⟨(World.frozen?_of_block he).trans hd.f.1, (World.frozen?_of_block he).trans hd.f.2⟩, hd.r.below hb, hd.u, hd.k0, hd.s0⟩, hk⟩
/-- another deck is written -/
theorem DeckF.off {B e : Nat} (h : DeckF cv dl W d c) (hB : RS B W cv dl.length (u8s dl)) (hBe : B ≤ e) (hde : d ≠ e) (hBd : B ≤ d) (hs : Sep (fun x => x = e) W W') : DeckF cv dl W' d c := by
  obtain ⟨k, s, hd, hk⟩ := h
  have he : W'.heap[d]? = W.heap[d]? := hs.same d (World.block_lt_of_cell? _ _ hd.c.1) hde
  have hb : Below B W W' := hs.below (by have h1 : d < W.heap.size := World.block_lt_of_cell? _ _ hd.c.1; omega) (fun x hx => by omega)
  exact ⟨k, s, ⟨⟨(World.cell?_of_block he).trans hd.c.1, (World.cell?_of_block he).trans hd.c.2.1, (World.cell?_of_block he).trans hd.c.2.2⟩, ⟨(World.frozen?_of_block he).trans hd.f.1, (World.frozen?_of_block he).trans hd.f.2⟩, (hB.below hb).mono hBd, hd.u, hd.k0, hd.s0⟩, hk⟩
set_option maxRecDepth 20000 in
set_option maxHeartbeats 1000000 in
theorem deckF_draw {n : Int} {w : World} (h : DeckF cv dl w d c) (hc : c < 1000000) :
    Calls Try.prog 33 #[.pointer (some ⟨d, 0, none⟩), .int .i64 n] w fun e w' => ∃ r : Int, e = .returned (.int .i64 r) ∧ ((n ≤ 1 → r = 0) ∧ 0 ≤ r ∧ (1 < n → r < n)) ∧ DealtF cv dl d c w w' := by
  obtain ⟨k, s, h, hk⟩ := h
  refine (draw_any h (by omega)).mono ?_
  rintro e w' ⟨r, k', s', rfl, h1, h2, h3, h4, h5, h6, h7⟩
  exact ⟨r, rfl, ⟨h1, h2, h3⟩, ⟨k', s', h4, by omega⟩, h6, h7⟩
set_option maxRecDepth 20000 in
set_option maxHeartbeats 1000000 in
theorem deckF_between {a b : Int} {w : World} (h : DeckF cv dl w d c) (hc : c < 1000000) (ha : -1000000 ≤ a ∧ a ≤ 1000000) (hb : -1000000 ≤ b ∧ b ≤ 1000000) (hab : a ≤ b) :
    Calls Try.prog 27 #[.pointer (some ⟨d, 0, none⟩), .int .i64 a, .int .i64 b] w fun e w' => ∃ r : Int, e = .returned (.int .i64 r) ∧ (a ≤ r ∧ r ≤ b) ∧ DealtF cv dl d c w w' := by
  have CD := Lib.hid (deckF_draw (n := b - a + 1) h hc)
  have e1 : IntKind.i64.wrap (b - a) = b - a := IntWalk.i64_in _ (by omega)
  have e2 : IntKind.i64.wrap (b - a + 1) = b - a + 1 := IntWalk.i64_in _ (by omega)
  have HAB := Lib.hid (And.intro hab (And.intro ha hb))
  clear ha hb hab hc h
  go_enter Try.func27, Try.ntmps27
  go_wp2_with fail
  refine CD.out.mono ?_
  rintro e w' ⟨r, rfl, hr, hd⟩
  have hra : 0 ≤ r ∧ a + r ≤ b := by
    have h1 := HAB.out.1
    by_cases e : b - a + 1 ≤ 1
    · have := hr.1 e; omega
    · have := hr.2.2 (by omega); omega
  have e3 : IntKind.i64.wrap (a + r) = a + r := IntWalk.i64_in _ (by have := HAB.out; omega)
  have HR := Lib.hid (And.intro hra hd)
  clear hr hra hd CD e1 e2
  go_wp2
  go_ret
  exact ⟨a + r, rfl, by have := HR.out.1; omega, HR.out.2⟩
set_option maxRecDepth 20000 in
set_option maxHeartbeats 1000000 in
theorem deckF_coin {n : Int} {w : World} (h : DeckF cv dl w d c) (hc : c < 1000000) :
    Calls Try.prog 34 #[.pointer (some ⟨d, 0, none⟩), .int .i64 n] w fun e w' => ∃ b : Bool, e = .returned (.bool b) ∧ DealtF cv dl d c w w' := by
  have CD := Lib.hid (deckF_draw (n := n) h hc)
  clear hc h
  go_enter Try.func34, Try.ntmps34
  go_wp2_with fail
  refine CD.out.mono ?_
  rintro e w' ⟨r, rfl, hr, hd⟩
  have HD := Lib.hid hd
  clear hr hd CD
  obtain ⟨b, hb⟩ : ∃ b, (r == 0) = b := ⟨_, rfl⟩
  go_wp2
  go_ret
  exact ⟨b, by rfl, HD.out⟩
set_option maxRecDepth 20000 in
set_option maxHeartbeats 1000000 in
/-- a deck of bytes -/
theorem ofF_any {B : Nat} {cv : Value} {l : List Int} {w : World} (hB : B ≤ w.heap.size) (h : RS B w cv l.length (u8s l)) (hu : ∀ x ∈ l, 0 ≤ x ∧ x ≤ 255) :
    Calls Try.prog 8 #[cv] w fun e w' => e = .returned (.pointer (some ⟨w.heap.size, 0, none⟩)) ∧ DeckF cv l w' w.heap.size 0 ∧ Below w.heap.size w w' ∧ w'.heap.size = w.heap.size + 1 := by
  have hb : Below w.heap.size w (w.alloc (.cells #[cv, .int .i64 0, .int .u32 9] 97)) := (Below.refl _ w).alloc (Nat.le_refl _) _
  have HD : Hid (DeckF cv l (w.alloc (.cells #[cv, .int .i64 0, .int .u32 9] 97)) w.heap.size 0) := Lib.hid
    ⟨0, 9, ⟨⟨by simp [go_sem], by simp [go_sem], by simp [go_sem]⟩, ⟨by simp [go_sem], by simp [go_sem]⟩, (h.mono hB).below hb, hu, by omega, by omega⟩, by omega⟩
  have HB := Lib.hid hb
  obtain ⟨a, cap, rfl, -⟩ := h
  clear hb
  go_enter Try.func8, Try.ntmps8
  go_wp2
  go_ret
  exact ⟨rfl, HD.out, HB.out, by simp⟩
end
end Go.Proofs.Ytiacgaplhndlnaa
