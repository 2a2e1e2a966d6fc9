/-
  Parts of the proof, in the order in which they build: PiA, PiC, PiB, PiD, PiE, QiB.
-/
set_option linter.unusedVariables false
set_option linter.unusedSimpArgs false
/-
  Profiles in plain words: which are right, by how much a place is short, who sees whom. No program in sight.
-/
namespace Go.Proofs.Ytohjinbgbfggcaa

/-- a profile as data -/
structure Pf where
  ats : List Int
  gr : List (Int × Int)
  tall : Int
  lo : Int
  hi : Int
def Pf.n (p : Pf) : Nat := p.ats.length
def Pf.a (p : Pf) (i : Nat) : Int := p.ats.getD i 0
def Pf.g (p : Pf) (i : Nat) : Int × Int := p.gr.getD i (0, 0)
/-- one end of a span -/
def endOf (high : Bool) (s : Int × Int) : Int := if high then s.2 else s.1
def Pf.bend (p : Pf) : Int × Int := (p.lo, p.hi)
/-- by how much two heads are too low for a place between -/
def Pf.short (p : Pf) (hh bh : Bool) (i j k : Nat) : Int :=
  (endOf bh (p.g k) * 10000000 + endOf bh p.bend * (p.a k - p.a i) * (p.a j - p.a k)) * ((p.a k - p.a i) + (p.a j - p.a k)) -
    ((endOf hh (p.g i) + p.tall) * (p.a j - p.a k) + (endOf hh (p.g j) + p.tall) * (p.a k - p.a i)) * 10000000
/-- no place between i and j (in this order) is too high -/
def Pf.open (p : Pf) (hh bh : Bool) (i j : Nat) : Bool := (List.range j).all fun k => decide (k ≤ i) || decide (p.short hh bh i j k < 0)
/-- two places see each other -/
def Pf.sees (p : Pf) (hh bh : Bool) (i j : Nat) : Bool := p.open hh bh (min i j) (max i j)
def Pf.sure (p : Pf) (i j : Nat) : Bool := p.sees false true i j
theorem open_iff {p : Pf} {hh bh : Bool} {i j : Nat} : p.open hh bh i j = true ↔ ∀ k, i < k → k < j → p.short hh bh i j k < 0 := by
  unfold Pf.open
  rw [List.all_eq_true]
  constructor
  · intro h k h1 h2
    have := h k (List.mem_range.2 h2)
    simp only [Bool.or_eq_true, decide_eq_true_eq] at this
    omega
  · intro h k hk
    have h2 := List.mem_range.1 hk
    simp only [Bool.or_eq_true, decide_eq_true_eq]
    by_cases h1 : i < k
    · exact .inr (h k h1 h2)
    · exact .inl (by omega)
/-- a number is from a least to a greatest one -/
def inR (n a b : Int) : Bool := decide (a ≤ n) && decide (n ≤ b)
theorem inR_iff {n a b : Int} : inR n a b = true ↔ a ≤ n ∧ n ≤ b := by simp [inR]
def rightS (s : Int × Int) (a b : Int) : Bool := inR s.1 a s.2 && decide (s.2 ≤ b)
theorem rightS_iff {s : Int × Int} {a b : Int} : rightS s a b = true ↔ a ≤ s.1 ∧ s.1 ≤ s.2 ∧ s.2 ≤ b := by
  unfold rightS
  rw [Bool.and_eq_true, inR_iff, decide_eq_true_eq]
  omega
def Pf.count (p : Pf) : Bool := inR (p.ats.length : Int) 2 40 && decide (p.gr.length = p.ats.length)
def Pf.value (p : Pf) : Bool := p.ats.all (fun x => inR x 0 20000) && (p.gr.all (fun s => rightS s 0 1000000) && (inR p.tall 0 2000 && rightS (p.lo, p.hi) 0 1000))
def Pf.order (p : Pf) : Bool := (List.range (p.ats.length - 1)).all fun i => decide (p.a i < p.a (i + 1))
/-- the error of a profile -/
def Pf.err (p : Pf) : Int := if p.count = false then 3 else if p.value = false then 4 else if p.order = false then 5 else 0
structure Pf.Ok (p : Pf) : Prop where
  n2 : 2 ≤ p.n
  n40 : p.n ≤ 40
  gn : p.gr.length = p.n
  ats : ∀ i, i < p.n → 0 ≤ p.a i ∧ p.a i ≤ 20000
  gr : ∀ i, i < p.n → 0 ≤ (p.g i).1 ∧ (p.g i).1 ≤ (p.g i).2 ∧ (p.g i).2 ≤ 1000000
  tall : 0 ≤ p.tall ∧ p.tall ≤ 2000
  bend : 0 ≤ p.lo ∧ p.lo ≤ p.hi ∧ p.hi ≤ 1000
  up : ∀ i, i + 1 < p.n → p.a i < p.a (i + 1)
theorem err_ok {p : Pf} (h : p.err = 0) : p.Ok := by
  unfold Pf.err at h
  split at h
  · cases h
  split at h
  · cases h
  split at h
  · cases h
  rename_i h1 h2 h3
  have c : p.count = true := by simpa using h1
  have v : p.value = true := by simpa using h2
  have o : p.order = true := by simpa using h3
  unfold Pf.count at c
  rw [Bool.and_eq_true, inR_iff, decide_eq_true_eq] at c
  unfold Pf.value at v
  simp only [Bool.and_eq_true, inR_iff, rightS_iff, List.all_eq_true] at v
  unfold Pf.order at o
  simp only [List.all_eq_true, List.mem_range, decide_eq_true_eq] at o
  obtain ⟨v1, v2, v3, v4⟩ := v
  have hn : p.n = p.ats.length := rfl
  refine ⟨by omega, by omega, by omega, fun i hi => ?_, fun i hi => ?_, v3, by omega, fun i hi => o i (by omega)⟩
  · have e : p.a i = p.ats[i] := by unfold Pf.a; rw [List.getD_eq_getElem?_getD, List.getElem?_eq_getElem hi]; rfl
    rw [e]; exact v1 _ (List.getElem_mem hi)
  · have hi' : i < p.gr.length := by omega
    have e : p.g i = p.gr[i] := by unfold Pf.g; rw [List.getD_eq_getElem?_getD, List.getElem?_eq_getElem hi']; rfl
    rw [e]; exact v2 _ (List.getElem_mem hi')
theorem Pf.Ok.lt {p : Pf} (h : p.Ok) {i j : Nat} (hij : i < j) (hj : j < p.n) : p.a i < p.a j := by
  induction j with
  | zero => omega
  | succ j ih =>
    by_cases e : i = j
    · subst e; exact h.up i hj
    · have := ih (by omega) (by omega)
      have := h.up j hj
      omega
/-- products of numbers within bounds -/
theorem mul_bd {x y a b : Int} (h0 : 0 ≤ x) (h1 : x ≤ a) (h2 : 0 ≤ y) (h3 : y ≤ b) : 0 ≤ x * y ∧ x * y ≤ a * b :=
  ⟨Int.mul_nonneg h0 h2, Int.mul_le_mul h1 h3 h2 (by omega)⟩
end Go.Proofs.Ytohjinbgbfggcaa
/-
  Readings of stones in plain words: how many there are, by the number of the last stone. No program in sight.
-/
namespace Go.Proofs.Ytohjinbgbfggcaa

/-- a roll's distances, a find's gaps and the numbers that were found (-1: none) -/
structure Rd where
  r : List (Int × Int)
  f : List (Int × Int)
  m : List Int
def sumLo (l : List (Int × Int)) : Int := (l.map Prod.fst).foldl (· + ·) 0
def sumHi (l : List (Int × Int)) : Int := (l.map Prod.snd).foldl (· + ·) 0
/-- the distances from a to b -/
def between (l : List (Int × Int)) (a b : Nat) : List (Int × Int) := (l.take b).drop a
/-- whether the distances between two pillars can be a gap -/
def fitsB (r : List (Int × Int)) (a b : Nat) (g : Int × Int) : Bool := decide (sumLo (between r a b) ≤ g.2) && decide (g.1 ≤ sumHi (between r a b))
/-- whether stone k can have number b, by what was found -/
def canB (d : Rd) (k b : Nat) : Bool := decide (d.m.getD k (-1) = -1) || decide (d.m.getD k (-1) = (b : Int))
/-- how many readings of stones 0 to k there are with stone k at b -/
def cnt (d : Rd) : Nat → Nat → Nat
  | 0, b => if canB d 0 b then 1 else 0
  | k + 1, b => if canB d (k + 1) b then ((List.range b).map fun a => if fitsB d.r a b (d.f.getD k (0, 0)) then cnt d k a else 0).sum else 0
theorem sum_range_le (f : Nat → Nat) (h : ∀ a, f a ≤ 2 ^ a) : ∀ n, ((List.range n).map f).sum < 2 ^ n
  | 0 => by simp
  | n + 1 => by
    have ih := sum_range_le f h n
    have h2 := h n
    rw [List.range_succ, List.map_append, List.sum_append]
    simp only [List.map_cons, List.map_nil, List.sum_cons, List.sum_nil]
    rw [Nat.pow_succ]
    omega
theorem cnt_le (d : Rd) : ∀ k b, cnt d k b ≤ 2 ^ b
  | 0, b => by
    unfold cnt
    split
    · exact Nat.one_le_two_pow
    · exact Nat.zero_le _
  | k + 1, b => by
    unfold cnt
    split
    · refine Nat.le_of_lt (sum_range_le _ (fun a => ?_) b)
      split
      · exact cnt_le d k a
      · exact Nat.zero_le _
    · exact Nat.zero_le _
/-- how many readings there are -/
def total (d : Rd) : Nat := ((List.range (d.r.length + 1)).map (cnt d (d.m.length - 1))).sum
def Rd.wrongS (l : List (Int × Int)) : Bool := l.any fun s => !rightS s 1 20000
/-- the error of a roll and finds -/
def Rd.err (d : Rd) : Int :=
  if inR (d.r.length : Int) 1 39 = false ∨ inR (d.m.length : Int) 1 40 = false ∨ (d.f.length : Int) ≠ (d.m.length : Int) - 1 then 3
  else if Rd.wrongS d.r = true ∨ Rd.wrongS d.f = true ∨ (d.m.any fun n => !inR n (-1) (d.r.length : Int)) = true then 4 else 0
end Go.Proofs.Ytohjinbgbfggcaa
/-
  Chains of pillars in plain words: the fewest, and of these the first in lexicographic order. No program in sight.
-/
namespace Go.Proofs.Ytohjinbgbfggcaa

/-- a chain of places from i to t, each of which surely sees the next; place w is not gone on from -/
inductive Ch (n : Nat) (S : Nat → Nat → Bool) (w : Int) (t : Nat) : Nat → List Nat → Prop
  | one : Ch n S w t t [t]
  | cons {i j : Nat} {L : List Nat} : i < j → j < n → S i j = true → (i : Int) ≠ w → Ch n S w t j L → Ch n S w t i (i :: L)
theorem Ch.le {n : Nat} {S : Nat → Nat → Bool} {w : Int} {t i : Nat} {L : List Nat} (h : Ch n S w t i L) : i ≤ t := by
  induction h with
  | one => exact Nat.le_refl _
  | cons h _ _ _ _ ih => omega
theorem Ch.pos {n : Nat} {S : Nat → Nat → Bool} {w : Int} {t i : Nat} {L : List Nat} (h : Ch n S w t i L) : 0 < L.length := by cases h <;> simp
theorem Ch.len {n : Nat} {S : Nat → Nat → Bool} {w : Int} {t i : Nat} {L : List Nat} (h : Ch n S w t i L) : L.length ≤ t - i + 1 := by
  induction h with
  | one => simp
  | cons h _ _ _ hc ih => have := hc.le; simp only [List.length_cons]; omega
theorem Ch.at_end {n : Nat} {S : Nat → Nat → Bool} {w : Int} {t i : Nat} {L : List Nat} (h : Ch n S w t i L) : i = t → L = [t] := by
  intro e
  cases h with
  | one => rfl
  | cons h _ _ _ hc => have := hc.le; omega
/-- what is needed from i on: the least number of places of a chain; none if there is no chain -/
structure IsNeed (n : Nat) (S : Nat → Nat → Bool) (w : Int) (t i : Nat) (o : Option Nat) : Prop where
  least : ∀ L, Ch n S w t i L → ∃ m, o = some m ∧ m ≤ L.length
  hit : ∀ m, o = some m → ∃ L, Ch n S w t i L ∧ L.length = m
/-- lists in lexicographic order -/
def lexLe : List Nat → List Nat → Prop
  | [], _ => True
  | _ :: _, [] => False
  | a :: l, b :: m => a < b ∨ (a = b ∧ lexLe l m)
theorem lexLe.refl : ∀ l : List Nat, lexLe l l
  | [] => trivial
  | a :: l => .inr ⟨rfl, lexLe.refl l⟩
theorem lexLe.antisymm : ∀ {l m : List Nat}, lexLe l m → lexLe m l → l = m
  | [], [], _, _ => rfl
  | [], _ :: _, _, h => h.elim
  | _ :: _, [], h, _ => h.elim
  | a :: l, b :: m, h, k => by
    rcases h with h | ⟨rfl, h⟩
    · rcases k with k | ⟨k, -⟩ <;> omega
    · rcases k with k | ⟨-, k⟩
      · omega
      · rw [lexLe.antisymm h k]
theorem lexLe.trans : ∀ {l m r : List Nat}, lexLe l m → lexLe m r → lexLe l r
  | [], _, _, _, _ => trivial
  | _ :: _, [], _, h, _ => h.elim
  | _ :: _, _ :: _, [], _, h => h.elim
  | a :: l, b :: m, c :: r, h, k => by
    rcases h with h | ⟨rfl, h⟩
    · rcases k with k | ⟨rfl, -⟩
      · exact .inl (by omega)
      · exact .inl h
    · rcases k with k | ⟨rfl, k⟩
      · exact .inl k
      · exact .inr ⟨rfl, lexLe.trans h k⟩
/-- the best chain: none is shorter, none as short comes before it -/
structure IsBest (n : Nat) (S : Nat → Nat → Bool) (w : Int) (t i : Nat) (L : List Nat) : Prop where
  ch : Ch n S w t i L
  le : ∀ L', Ch n S w t i L' → L.length < L'.length ∨ (L.length = L'.length ∧ lexLe L L')
theorem IsBest.unique {n : Nat} {S : Nat → Nat → Bool} {w : Int} {t i : Nat} {L L' : List Nat} (h : IsBest n S w t i L) (h' : IsBest n S w t i L') : L = L' := by
  rcases h.le L' h'.ch with h1 | ⟨h1, h2⟩
  · rcases h'.le L h.ch with h3 | ⟨h3, -⟩ <;> omega
  · rcases h'.le L h.ch with h3 | ⟨-, h4⟩
    · omega
    · exact lexLe.antisymm h2 h4
/-- on from a place: the first place ahead from which one fewer is needed -/
theorem IsBest.step {n : Nat} {S : Nat → Nat → Bool} {w : Int} {t i j m : Nat} {L : List Nat} {N : Nat → Option Nat} (hN : ∀ k, IsNeed n S w t k (N k)) (hi : N i = some (m + 1)) (hij : i < j) (hj : j < n) (hS : S i j = true) (hw : (i : Int) ≠ w) (hm : N j = some m)
    (hfirst : ∀ k, i < k → k < j → S i k = true → N k ≠ some m) (hL : IsBest n S w t j L) : IsBest n S w t i (i :: L) := by
  have hlen : L.length = m := by
    obtain ⟨m1, h1, h2⟩ := (hN j).least L hL.ch
    rw [hm] at h1
    cases h1
    obtain ⟨L2, h3, h4⟩ := (hN j).hit m hm
    rcases hL.le L2 h3 with h | h <;> omega
  refine ⟨.cons hij hj hS hw hL.ch, fun L' hL' => ?_⟩
  obtain ⟨m1, h1, h2⟩ := (hN i).least L' hL'
  rw [hi] at h1
  cases h1
  simp only [List.length_cons, hlen]
  by_cases he : m + 1 = L'.length
  · refine .inr ⟨he, ?_⟩
    cases hL' with
    | one =>
      have : L.length = 0 := by simp at he; omega
      have := hL.ch.pos; omega
    | @cons _ k L2 hik hkn hSk _ hc =>
      refine .inr ⟨rfl, ?_⟩
      have hl2 : L2.length = m := by simp at he; omega
      have hk : N k = some m := by
        obtain ⟨m3, h3, h4⟩ := (hN k).least L2 hc
        obtain ⟨L3, h5, h6⟩ := (hN k).hit m3 h3
        obtain ⟨m4, h7, h8⟩ := (hN i).least (i :: L3) (.cons hik hkn hSk hw h5)
        rw [hi] at h7
        cases h7
        simp only [List.length_cons] at h8
        have : m3 = m := by omega
        rw [h3, this]
      have hjk : j ≤ k := by
        rcases Nat.lt_or_ge k j with h | h
        · exact absurd hk (hfirst k hik h hSk)
        · exact h
      by_cases e : j = k
      · subst e
        rcases hL.le L2 hc with h | ⟨-, h⟩
        · omega
        · exact h
      · have hjh : ∃ l, L = j :: l := by cases hL.ch with
          | one => exact ⟨_, rfl⟩
          | cons => exact ⟨_, rfl⟩
        have hkh : ∃ l, L2 = k :: l := by cases hc with
          | one => exact ⟨_, rfl⟩
          | cons => exact ⟨_, rfl⟩
        obtain ⟨l1, rfl⟩ := hjh
        obtain ⟨l2, rfl⟩ := hkh
        exact .inl (by omega)
  · exact .inl (by omega)
theorem IsBest.here {n : Nat} {S : Nat → Nat → Bool} {w : Int} {t : Nat} : IsBest n S w t t [t] :=
  ⟨.one, fun L' h => .inr (by rw [h.at_end rfl]; exact ⟨rfl, lexLe.refl _⟩)⟩
end Go.Proofs.Ytohjinbgbfggcaa
/-
  The best chain, built from its first place on: whole lists are kept for each place. No program in sight.
-/
namespace Go.Proofs.Ytohjinbgbfggcaa

theorem lexLe_snoc : ∀ {l m : List Nat} (j : Nat), l.length = m.length → (lexLe (l ++ [j]) (m ++ [j]) ↔ lexLe l m)
  | [], [], j, _ => ⟨fun _ => trivial, fun _ => .inr ⟨rfl, trivial⟩⟩
  | [], _ :: _, _, h => by simp at h
  | _ :: _, [], _, h => by simp at h
  | a :: l, b :: m, j, h => by
    have ih := lexLe_snoc (l := l) (m := m) j (by simpa using h)
    show (a < b ∨ (a = b ∧ lexLe (l ++ [j]) (m ++ [j]))) ↔ (a < b ∨ (a = b ∧ lexLe l m))
    rw [ih]
/-- a list is better than another one, or it -/
def better (L M : List Nat) : Prop := L.length < M.length ∨ (L.length = M.length ∧ lexLe L M)
theorem better.refl (L : List Nat) : better L L := .inr ⟨rfl, lexLe.refl L⟩
theorem better.trans {L M R : List Nat} (h : better L M) (k : better M R) : better L R := by
  rcases h with h | ⟨h, h'⟩
  · rcases k with k | ⟨k, -⟩ <;> exact .inl (by omega)
  · rcases k with k | ⟨k, k'⟩
    · exact .inl (by omega)
    · exact .inr ⟨by omega, lexLe.trans h' k'⟩
theorem better.snoc {L M : List Nat} (j : Nat) (h : better L M) : better (L ++ [j]) (M ++ [j]) := by
  rcases h with h | ⟨h, h'⟩
  · exact .inl (by simp; omega)
  · exact .inr ⟨by simp [h], (lexLe_snoc j h).2 h'⟩
/-- the best list to place j by the places before k; none is the empty list -/
structure BestTo (n : Nat) (S : Nat → Nat → Bool) (w : Int) (s j k : Nat) (B : List Nat) : Prop where
  has : B ≠ [] → ∃ i L, i < k ∧ B = L ++ [j] ∧ Ch n S w i s L ∧ i < j ∧ S i j = true ∧ (i : Int) ≠ w
  le : ∀ i L, i < k → Ch n S w i s L → i < j → S i j = true → (i : Int) ≠ w → B ≠ [] ∧ better B (L ++ [j])
/-- whether a list is put in the place of another one -/
def takes (L B : List Nat) : Prop := B = [] ∨ (better L B ∧ L ≠ B)
theorem BestTo.skip {n : Nat} {S : Nat → Nat → Bool} {w : Int} {s j k : Nat} {B : List Nat} (h : BestTo n S w s j k B) (hn : ∀ L, Ch n S w k s L → S k j = true → (k : Int) ≠ w → False) : BestTo n S w s j (k + 1) B := by
  refine ⟨fun hb => ?_, fun i L hi hc hij hS hw => ?_⟩
  · obtain ⟨i, L, h1, h2⟩ := h.has hb
    exact ⟨i, L, by omega, h2⟩
  · by_cases e : i = k
    · subst e; exact (hn L hc hS hw).elim
    · exact h.le i L (by omega) hc hij hS hw
theorem BestTo.put {n : Nat} {S : Nat → Nat → Bool} {w : Int} {s j k : Nat} {B L : List Nat} (h : BestTo n S w s j k B) (hkj : k < j) (hS : S k j = true) (hw : (k : Int) ≠ w) (hL : IsBest n S w k s L) (ht : takes (L ++ [j]) B) : BestTo n S w s j (k + 1) (L ++ [j]) := by
  refine ⟨fun _ => ⟨k, L, by omega, rfl, hL.ch, hkj, hS, hw⟩, fun i M hi hc hij hS' hw' => ⟨by simp, ?_⟩⟩
  by_cases e : i = k
  · subst e
    refine better.snoc j ?_
    rcases hL.le M hc with h | h
    · exact .inl h
    · exact .inr h
  · obtain ⟨h1, h2⟩ := h.le i M (by omega) hc hij hS' hw'
    rcases ht with ht | ht
    · exact absurd ht h1
    · exact ht.1.trans h2
end Go.Proofs.Ytohjinbgbfggcaa
/-
  What is needed from each place on, place by place; levels. No program in sight.
-/
namespace Go.Proofs.Ytohjinbgbfggcaa

theorem IsNeed.here {n : Nat} {S : Nat → Nat → Bool} {w : Int} {t : Nat} : IsNeed n S w t t (some 1) :=
  ⟨fun L h => ⟨1, rfl, h.pos⟩, fun m h => by cases h; exact ⟨[t], .one, rfl⟩⟩
theorem IsNeed.lost {n : Nat} {S : Nat → Nat → Bool} {w : Int} {t i : Nat} (hi : (i : Int) = w) (hit : i ≠ t) : IsNeed n S w t i none :=
  ⟨fun L h => by cases h with
    | one => exact absurd rfl hit
    | cons _ _ _ h4 _ => exact absurd hi h4, fun m h => by cases h⟩
theorem IsNeed.beyond {n : Nat} {S : Nat → Nat → Bool} {w : Int} {t i : Nat} (hi : t < i) : IsNeed n S w t i none :=
  ⟨fun L h => by have := h.le; omega, fun m h => by cases h⟩
/-- what is known at place i, when the places of pre ahead of it have been looked at -/
structure NeedMid (n : Nat) (S : Nat → Nat → Bool) (t i : Nat) (N : Nat → Option Nat) (pre : List Nat) (o : Option Nat) : Prop where
  hit : ∀ m, o = some m → ∃ j k, j ∈ pre ∧ j ≤ t ∧ N j = some k ∧ m = k + 1
  least : ∀ j k, j ∈ pre → j ≤ t → N j = some k → ∃ m, o = some m ∧ m ≤ k + 1
theorem NeedMid.begin {n : Nat} {S : Nat → Nat → Bool} {t i : Nat} {N : Nat → Option Nat} : NeedMid n S t i N [] none := ⟨fun m h => (by cases h), fun j k h => (by cases h)⟩
theorem NeedMid.skip {n : Nat} {S : Nat → Nat → Bool} {t i j : Nat} {N : Nat → Option Nat} {pre : List Nat} {o : Option Nat} (h : NeedMid n S t i N pre o) (hs : ∀ k, j ≤ t → N j = some k → ∃ m, o = some m ∧ m ≤ k + 1) : NeedMid n S t i N (pre ++ [j]) o :=
  ⟨fun m hm => let ⟨j', k, h1, h2⟩ := h.hit m hm; ⟨j', k, List.mem_append_left _ h1, h2⟩, fun j' k hj ht hN => by
    rcases List.mem_append.1 hj with hj | hj
    · exact h.least j' k hj ht hN
    · rcases List.mem_singleton.1 hj with rfl; exact hs k ht hN⟩
theorem NeedMid.take {n : Nat} {S : Nat → Nat → Bool} {t i j k : Nat} {N : Nat → Option Nat} {pre : List Nat} {o : Option Nat} (h : NeedMid n S t i N pre o) (ht : j ≤ t) (hN : N j = some k) (ho : ∀ m, o = some m → k + 1 < m) : NeedMid n S t i N (pre ++ [j]) (some (k + 1)) :=
  ⟨fun m hm => by cases hm; exact ⟨j, k, by simp, ht, hN, rfl⟩, fun j' k' hj ht' hN' => by
    refine ⟨k + 1, rfl, ?_⟩
    rcases List.mem_append.1 hj with hj | hj
    · obtain ⟨m, h1, h2⟩ := h.least j' k' hj ht' hN'
      have := ho m h1
      omega
    · rcases List.mem_singleton.1 hj with rfl
      rw [hN] at hN'
      cases hN'; omega⟩
theorem NeedMid.done {n : Nat} {S : Nat → Nat → Bool} {w : Int} {t i : Nat} {N : Nat → Option Nat} {pre : List Nat} {o : Option Nat} (h : NeedMid n S t i N pre o) (ht : t < n) (hit : i ≠ t) (hw : (i : Int) ≠ w) (hp : ∀ j, j ∈ pre ↔ i < j ∧ j < n ∧ S i j = true) (hN : ∀ j, i < j → j ≤ t → IsNeed n S w t j (N j)) : IsNeed n S w t i o := by
  refine ⟨fun L hL => ?_, fun m hm => ?_⟩
  · cases hL with
    | one => exact absurd rfl hit
    | @cons _ j L h1 h2 h3 h4 hc =>
      have hjt := hc.le
      obtain ⟨k, h5, h6⟩ := (hN j h1 hjt).least L hc
      obtain ⟨m, h7, h8⟩ := h.least j k ((hp j).2 ⟨h1, h2, h3⟩) hjt h5
      exact ⟨m, h7, by simp; omega⟩
  · obtain ⟨j, k, h1, h2, h3, rfl⟩ := h.hit m hm
    obtain ⟨h4, h5, h6⟩ := (hp j).1 h1
    obtain ⟨L, h7, h8⟩ := (hN j h4 h2).hit k h3
    exact ⟨i :: L, .cons h4 h5 h6 hw h7, by simp [h8]⟩
theorem lev_get (l : List Int) (i j : Nat) (v : Int) : (l.set i v).getD j 0 = if i = j ∧ i < l.length then v else l.getD j 0 := by
  simp only [List.getD_eq_getElem?_getD, List.getElem?_set]
  by_cases h : i = j
  · subst h
    by_cases h2 : i < l.length
    · simp [h2]
    · simp [h2]
  · simp [h]
/-- what levels prove -/
def Proof (n : Nat) (S : Nat → Nat → Bool) (l : List Int) : Prop := ∀ i j, i < j → j < n → S i j = true → l.getD j 0 ≤ l.getD i 0 + 1
end Go.Proofs.Ytohjinbgbfggcaa
/-
  How tall the heads must be: plain mathematics for Tall.
-/
namespace Go.Proofs.Ytohjinbgbfggcaa

/-- the profile with heads of height t -/
def Pf.at (p : Pf) (t : Int) : Pf := { p with tall := t }
def tallStep (D acc s : Int) : Int := if 0 ≤ s then max acc (s / D + 1) else acc
def tallTo (p : Pf) (lo up : Nat) : Nat → Int
  | 0 => 0
  | m + 1 => tallStep ((p.a up - p.a lo) * 10000000) (tallTo p lo up m) ((p.at 0).short false true lo up (lo + 1 + m))
end Go.Proofs.Ytohjinbgbfggcaa
