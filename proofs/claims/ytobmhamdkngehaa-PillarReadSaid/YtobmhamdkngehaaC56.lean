/-
  Parts of the proof, in the order in which they build: PoN.
-/
import Derived.Test.YtobmhamdkngehaaC54
import Derived.Test.YtobmhamdkngehaaA18
set_option linter.unusedVariables false
set_option linter.unusedSimpArgs false
namespace Go.Proofs.Ytobmhamdkngehaa
open Go.RowKit Go.Shelf
open Lim

section
variable {n : Nat} {S : Nat → Nat → Bool} {w : Int} {t i : Nat} {L : List Nat}
theorem Ch.mem (h : Ch n S w t i L) : ∀ x ∈ L, i ≤ x ∧ x ≤ t ∧ (x ≠ t → (x : Int) ≠ w) := by
  induction h with
  | one => intro x hx; rcases List.mem_singleton.1 hx with rfl; exact ⟨Nat.le_refl _, Nat.le_refl _, fun h => absurd rfl h⟩
  | @cons a b M h1 h2 h3 h4 hc ih =>
    have hle := hc.le
    intro x hx
    rcases List.mem_cons.1 hx with rfl | hx
    · exact ⟨Nat.le_refl _, by omega, fun _ => h4⟩
    · have := ih x hx
      exact ⟨by omega, this.2⟩
theorem Ch.mono_w {w' : Int} (h : Ch n S w t i L) (hw : ∀ x ∈ L, x ≠ t → (x : Int) ≠ w') : Ch n S w' t i L := by
  induction h with
  | one => exact .one
  | @cons a b M h1 h2 h3 h4 hc ih =>
    have hle := hc.le
    exact .cons h1 h2 h3 (hw a List.mem_cons_self (by omega)) (ih (fun x hx => hw x (List.mem_cons_of_mem _ hx)))
theorem Ch.head (h : Ch n S w t i L) : ∃ M, L = i :: M := by
  cases h with
  | one => exact ⟨_, rfl⟩
  | cons => exact ⟨_, rfl⟩
theorem Ch.last (h : Ch n S w t i L) : ∃ M, L = M ++ [t] := by
  induction h with
  | one => exact ⟨[], rfl⟩
  | @cons a b M h1 h2 h3 h4 hc ih =>
    obtain ⟨N, hN⟩ := ih
    exact ⟨a :: N, by rw [hN]; rfl⟩
theorem Ch.split (h : Ch n S w t i L) : ∀ {k : Nat}, k < L.length → Ch n S w t (L.getD k 0) (L.drop k) ∧ Ch n S w (L.getD k 0) i (L.take (k + 1)) := by
  induction h with
  | one =>
    intro k hk
    have : k = 0 := by simpa using hk
    subst this
    exact ⟨.one, .one⟩
  | @cons a b M h1 h2 h3 h4 hc ih =>
    intro k hk
    cases k with
    | zero => exact ⟨.cons h1 h2 h3 h4 hc, .one⟩
    | succ k =>
      have := ih (k := k) (by simp at hk; omega)
      rw [List.getD_cons_succ, List.drop_succ_cons, List.take_succ_cons]
      exact ⟨this.1, .cons h1 h2 h3 h4 this.2⟩
theorem Ch.join {b a : Nat} {M : List Nat} (h1 : Ch n S w b a M) {N : List Nat} (h2 : Ch n S w t b N) : Ch n S w t a (M.dropLast ++ N) := by
  induction h1 with
  | one => exact h2
  | @cons a c M h3 h4 h5 h6 hc ih =>
    obtain ⟨M', rfl⟩ := hc.head
    exact .cons h3 h4 h5 h6 ih
end
/-- all places, one after the other -/
theorem ch_all {p : Pf} (hp : p.Ok) : Ch p.n p.sure (-1) (p.n - 1) 0 (List.range p.n) := by
  have hn := hp.n2
  obtain ⟨m, hm⟩ : ∃ m, p.n = m + 1 := ⟨p.n - 1, by omega⟩
  have hr : List.range p.n = 0 :: (List.range m).map Nat.succ := by rw [hm, List.range_succ_eq_map]
  have hg : ∀ k, k < p.n → (List.range p.n).getD k 0 = k := fun k hk => by
    rw [List.getD_eq_getElem?_getD, List.getElem?_eq_getElem (by simpa using hk)]
    simp
  have hl : (List.range p.n).length = p.n := List.length_range
  rw [hr] at hg hl ⊢
  refine ch_of _ 0 (fun k hk => ?_) ?_ (fun a => by omega)
  · rw [hl] at hk
    rw [hg k (by omega), hg (k + 1) hk]
    exact ⟨by omega, hk, side_sure p (by omega)⟩
  · rw [hg _ (by simp; omega)]
    simp
    omega
theorem erase_in {n : Nat} {xs : List Int} {k : Nat} (h : inAll n xs = true) : inAll n (xs.eraseIdx k) = true := by
  unfold inAll at h ⊢
  rw [List.all_eq_true] at h ⊢
  exact fun x hx => h x ((List.eraseIdx_sublist xs k).subset hx)
theorem up_get {n : Nat} {S : Nat → Nat → Bool} {w : Int} {t i : Nat} {L : List Nat} (h : Ch n S w t i L) {a b : Nat} (hab : a < b) (hb : b < L.length) : L.getD a 0 < L.getD b 0 := by
  obtain ⟨-, -, h2⟩ := h.at
  have key : ∀ d, a + d + 1 < L.length → L.getD a 0 < L.getD (a + d + 1) 0 := by
    intro d
    induction d with
    | zero => intro h; exact (h2 a h).1
    | succ d ih => intro h; have h3 := ih (by omega); have h4 := (h2 (a + d + 1) h).1; show L.getD a 0 < L.getD (a + d + 1 + 1) 0; omega
  have := key (b - a - 1) (by omega)
  rwa [show a + (b - a - 1) + 1 = b by omega] at this
theorem mem_getD {L : List Nat} {x : Nat} (h : x ∈ L) : ∃ k, k < L.length ∧ L.getD k 0 = x := by
  obtain ⟨k, hk, rfl⟩ := List.getElem_of_mem h
  exact ⟨k, hk, by rw [List.getD_eq_getElem?_getD, List.getElem?_eq_getElem hk]; rfl⟩
theorem memD {L : List Nat} {k : Nat} (h : k < L.length) : L.getD k 0 ∈ L := by
  rw [List.getD_eq_getElem?_getD, List.getElem?_eq_getElem h]; exact List.getElem_mem h
/-- a lost pillar k of L, with what is put for it -/
structure Mended (p : Pf) (L : List Nat) (k : Nat) (R : List Nat) : Prop where
  ch : Ch p.n p.sure (-1) (p.n - 1) 0 R
  lost : L.getD k 0 ∉ R
  others : ∀ i, i < L.length → i ≠ k → L.getD i 0 ∈ R
  near : ∀ x ∈ R, x ∉ L → L.getD (k - 1) 0 ≤ x ∧ x ≤ L.getD (k + 1) 0
  few : ∀ T : List Nat, Ch p.n p.sure (-1) (p.n - 1) 0 (L.take k ++ T ++ L.drop (k + 1)) → L.getD k 0 ∉ T → R.length ≤ (L.take k ++ T ++ L.drop (k + 1)).length
theorem mended {p : Pf} {L M : List Nat} {k : Nat} (hL : Ch p.n p.sure (-1) (p.n - 1) 0 L) (hk : 1 ≤ k ∧ k + 1 < L.length)
    (hM : IsBest p.n p.sure (L.getD k 0 : Nat) (L.getD (k + 1) 0) (L.getD (k - 1) 0) M) : Mended p L k (L.take (k - 1) ++ M ++ L.drop (k + 2)) := by
  have s1 := (hL.split (k := k - 1) (by omega)).2
  rw [show k - 1 + 1 = k by omega] at s1
  have s2 := (hL.split (k := k + 1) hk.2).1
  have u1 := up_get hL (a := k - 1) (b := k) (by omega) (by omega)
  have u2 := up_get hL (a := k) (b := k + 1) (by omega) (by omega)
  have hMm := hM.ch.mem
  have hdl : (L.take k).dropLast = L.take (k - 1) := by rw [List.dropLast_take (by omega)]
  have hd2 : L.drop (k + 1) = L.getD (k + 1) 0 :: L.drop (k + 2) := by
    rw [List.drop_eq_getElem_cons hk.2, List.getD_eq_getElem?_getD, List.getElem?_eq_getElem hk.2]; rfl
  obtain ⟨N, hN⟩ := hM.ch.last
  have hMd : M.dropLast ++ L.drop (k + 1) = M ++ L.drop (k + 2) := by rw [hN, List.dropLast_concat, hd2, List.append_assoc]; rfl
  obtain ⟨M', hM'⟩ := hM.ch.head
  have c0 : ∀ x : Nat, (x : Int) ≠ -1 := fun x => by omega
  have hch := s1.join ((hM.ch.mono_w (fun x _ _ => c0 x)).join s2)
  rw [hdl, hMd, ← List.append_assoc] at hch
  refine ⟨hch, fun hx => ?_, fun i hi hik => ?_, fun x hx hxL => ?_, fun T hT hlT => ?_⟩
  · rcases List.mem_append.1 hx with hx | hx
    · rcases List.mem_append.1 hx with hx | hx
      · obtain ⟨j, hj, e⟩ := mem_getD hx
        rw [List.length_take] at hj
        have h3 := up_get hL (a := j) (b := k) (by omega) (by omega)
        rw [List.getD_eq_getElem?_getD, List.getElem?_take_of_lt (by omega), ← List.getD_eq_getElem?_getD] at e
        omega
      · have := hMm _ hx
        exact this.2.2 (by omega) rfl
    · obtain ⟨j, hj, e⟩ := mem_getD hx
      rw [List.length_drop] at hj
      have h3 := up_get hL (a := k) (b := k + 2 + j) (by omega) (by omega)
      rw [List.getD_eq_getElem?_getD, List.getElem?_drop, ← List.getD_eq_getElem?_getD] at e
      omega
  · rcases Nat.lt_or_ge i (k - 1) with h | h
    · refine List.mem_append_left _ (List.mem_append_left _ ?_)
      have : (L.take (k - 1)).getD i 0 = L.getD i 0 := by rw [List.getD_eq_getElem?_getD, List.getElem?_take_of_lt h, ← List.getD_eq_getElem?_getD]
      rw [← this]
      exact memD (by rw [List.length_take]; omega)
    · rcases Nat.lt_or_ge i (k + 2) with h2 | h2
      · refine List.mem_append_left _ (List.mem_append_right _ ?_)
        have : i = k - 1 ∨ i = k + 1 := by omega
        rcases this with rfl | rfl
        · rw [hM']; exact List.mem_cons_self
        · rw [hN]; exact List.mem_append_right _ List.mem_cons_self
      · refine List.mem_append_right _ ?_
        have : (L.drop (k + 2)).getD (i - (k + 2)) 0 = L.getD i 0 := by rw [List.getD_eq_getElem?_getD, List.getElem?_drop, ← List.getD_eq_getElem?_getD, show k + 2 + (i - (k + 2)) = i by omega]
        rw [← this]
        exact memD (by rw [List.length_drop]; omega)
  · rcases List.mem_append.1 hx with hx | hx
    · rcases List.mem_append.1 hx with hx | hx
      · exact absurd (List.mem_of_mem_take hx) hxL
      · exact ⟨(hMm _ hx).1, (hMm _ hx).2.1⟩
    · exact absurd (List.mem_of_mem_drop hx) hxL
  · have hlk : (L.take k).length = k := by rw [List.length_take]; omega
    have t1 := (hT.split (k := k - 1) (by simp; omega)).1
    have g1 : (L.take k ++ T ++ L.drop (k + 1)).getD (k - 1) 0 = L.getD (k - 1) 0 := by
      rw [List.append_assoc, List.getD_eq_getElem?_getD, List.getElem?_append_left (by omega), List.getElem?_take_of_lt (by omega), ← List.getD_eq_getElem?_getD]
    have g2 : (L.take k ++ T ++ L.drop (k + 1)).drop (k - 1) = L.getD (k - 1) 0 :: (T ++ L.drop (k + 1)) := by
      have e : L.take k = L.take (k - 1) ++ [L.getD (k - 1) 0] := by
        rw [List.getD_eq_getElem?_getD, List.getElem?_eq_getElem (show k - 1 < L.length by omega)]
        have := List.take_append_getElem (l := L) (i := k - 1) (by omega)
        rw [show k - 1 + 1 = k by omega] at this
        rw [← this]; rfl
      rw [e, List.append_assoc, List.append_assoc, List.drop_left' (by rw [List.length_take]; omega)]
      rfl
    rw [g1, g2, hd2] at t1
    have t2 := (t1.split (k := T.length + 1) (by simp)).2
    have g3 : (L.getD (k - 1) 0 :: (T ++ L.getD (k + 1) 0 :: L.drop (k + 2))).getD (T.length + 1) 0 = L.getD (k + 1) 0 := by
      rw [List.getD_cons_succ, List.getD_eq_getElem?_getD, List.getElem?_append_right (Nat.le_refl _), Nat.sub_self]; rfl
    have g4 : (L.getD (k - 1) 0 :: (T ++ L.getD (k + 1) 0 :: L.drop (k + 2))).take (T.length + 1 + 1) = L.getD (k - 1) 0 :: (T ++ [L.getD (k + 1) 0]) := by
      rw [List.take_succ_cons, List.take_length_add_append]
      rfl
    rw [g3, g4] at t2
    have t3 := t2.mono_w (w' := ((L.getD k 0 : Nat) : Int)) (fun x hx hne => by
      rcases List.mem_cons.1 hx with rfl | hx
      · omega
      · rcases List.mem_append.1 hx with hx | hx
        · intro e
          have e2 : x = L.getD k 0 := by omega
          exact hlT (e2 ▸ hx)
        · exact absurd (List.mem_singleton.1 hx) hne)
    have := hM.le _ t3
    simp only [List.length_append, List.length_cons, List.length_take, List.length_drop, List.length_nil] at this ⊢
    omega
/-- where nothing can be put, no place between does -/
theorem unmended {p : Pf} {a b c : Nat} (hab : a < b) (hbc : b < c) (hc : c < p.n) (h : ∀ M, ¬ Ch p.n p.sure (b : Nat) c a M) : p.sure a c = false ∧ ∀ x, a < x → x < c → x ≠ b → (p.sure a x && p.sure x c) = false := by
  constructor
  · cases e : p.sure a c with
    | false => rfl
    | true => exact absurd (.cons (by omega) hc e (by omega) .one) (h [a, c])
  · intro x h1 h2 h3
    cases e : p.sure a x with
    | false => rfl
    | true =>
      cases e2 : p.sure x c with
      | false => rfl
      | true => exact absurd (.cons h1 (by omega) e (by omega) (.cons h2 hc e2 (by omega) .one)) (h [a, x, c])
theorem own_cap {w : World} {base e size n c : Nat} {a : Option Addr} {xs : List Value} (h : w.ownsRow base e size (.slice a n c) n xs) : n ≤ c := by
  rcases h.2 with ⟨h1, h2⟩ | ⟨g, cap, cur, h1, -, -, h2, -⟩
  · omega
  · cases h1; exact h2
theorem mend_two {p : Pf} (hp : p.Ok) {A : List Int} (hi : inAll p.n A = true) (hh : holdsP p A = true) (h2 : A.length = 2) {w w' : World} {e : Ending} (h : MendAns w p A 1 e w') :
    ∃ v, e = .returned (.tuple #[v, .int .i64 2]) ∧ Below w.heap.size w w' := by
  obtain ⟨hb, v, er, R, he, -, h⟩ := h
  have hr : inR 1 1 ((A.length : Int) - 2) = false := by rw [h2]; decide
  rcases h with ⟨h, -⟩ | ⟨-, h, -⟩ | ⟨-, -, h, -⟩ | ⟨-, -, -, -, -, rfl⟩ | ⟨-, -, -, h, -⟩
  · exact absurd hp.err h
  · rw [hi] at h; cases h
  · rw [hh] at h; cases h
  · exact ⟨v, he, hb⟩
  · rw [hr] at h; cases h
/-- what Mend answers for a pillar between two others -/
def MidAns (w : World) (p : Pf) (L : List Nat) (k : Nat) (v : Value) (er : Int) (w' : World) : Prop :=
  (er = 7 ∧ p.sure (L.getD (k - 1) 0) (L.getD (k + 1) 0) = false ∧ ∀ x, L.getD (k - 1) 0 < x → x < L.getD (k + 1) 0 → x ≠ L.getD k 0 → (p.sure (L.getD (k - 1) 0) x && p.sure x (L.getD (k + 1) 0)) = false) ∨
  (er = 0 ∧ ∃ R : List Nat, w'.ownsRow w.heap.size 3 1 v R.length (ints (R.map Int.ofNat)) ∧ Mended p L k R)
theorem mend_mid {p : Pf} (hp : p.Ok) {L : List Nat} {k : Nat} (hL : Ch p.n p.sure (-1) (p.n - 1) 0 L) (hk : 1 ≤ k ∧ k + 1 < L.length) {w w' : World} {e : Ending} (h : MendAns w p (L.map Int.ofNat) k e w') :
    ∃ v er, e = .returned (.tuple #[v, .int .i64 er]) ∧ Below w.heap.size w w' ∧ MidAns w p L k v er w' := by
  obtain ⟨hb, v, er, R, he, ho, h⟩ := h
  refine ⟨v, er, he, hb, ?_⟩
  obtain ⟨hi, hh⟩ := ch_holds hp hL
  have hr : inR (k : Int) 1 (((L.map Int.ofNat).length : Int) - 2) = true := by rw [List.length_map]; exact inR_iff.2 (by omega)
  have u1 := up_get hL (a := k - 1) (b := k) (by omega) (by omega)
  have u2 := up_get hL (a := k) (b := k + 1) (by omega) (by omega)
  have hc := (hL.at.2.2 k hk.2).2.1
  rcases h with ⟨h, -⟩ | ⟨-, h, -⟩ | ⟨-, -, h, -⟩ | ⟨-, -, -, h, -⟩ | ⟨-, -, -, -, h⟩
  · exact absurd hp.err h
  · rw [hi] at h; cases h
  · rw [hh] at h; cases h
  · rw [hr] at h; cases h
  · simp only [Int.toNat_natCast, getD_map] at h
    rcases h with ⟨-, h7, h⟩ | ⟨h0, M, hM, rfl⟩
    · exact .inl ⟨h7, unmended u1 u2 hc h⟩
    · refine .inr ⟨h0, _, ?_, mended hL hk hM⟩
      rw [← List.map_take, ← List.map_drop, ← List.map_append, ← List.map_append, List.length_map] at ho
      exact ho
structure MineT (p : Pf) (L : List Nat) (k x : Nat) (T : List Nat) : Prop where
  len : T.length ≤ x
  lt : ∀ y ∈ T, y < p.n ∧ y ≠ L.getD k 0
theorem MineT.nil (p : Pf) (L : List Nat) (k x : Nat) : MineT p L k x [] := ⟨Nat.zero_le _, fun y hy => by cases hy⟩
theorem MineT.skip {p : Pf} {L T : List Nat} {k x : Nat} (h : MineT p L k x T) : MineT p L k (x + 1) T := ⟨Nat.le_succ_of_le h.len, h.lt⟩
theorem MineT.snoc {p : Pf} {L T : List Nat} {k x : Nat} (h : MineT p L k x T) (hx : x < p.n) (hne : x ≠ L.getD k 0) : MineT p L k (x + 1) (T ++ [x]) :=
  ⟨by have := h.len; simp; omega, fun y hy => by
    rcases List.mem_append.1 hy with hy | hy
    · exact h.lt y hy
    · rcases List.mem_singleton.1 hy with rfl; exact ⟨hx, hne⟩⟩
theorem nat_in {n : Nat} {L : List Nat} (h : ∀ y ∈ L, y < n) : inAll n (L.map Int.ofNat) = true := by
  unfold inAll
  rw [List.all_eq_true]
  intro x hx
  obtain ⟨y, hy, rfl⟩ := List.mem_map.1 hx
  have := h y hy
  rw [inR_iff]
  show 0 ≤ ((y : Nat) : Int) ∧ ((y : Nat) : Int) ≤ _
  omega
theorem ch_lt {p : Pf} (hp : p.Ok) {L : List Nat} (hL : Ch p.n p.sure (-1) (p.n - 1) 0 L) : ∀ y ∈ L, y < p.n := fun y hy => by
  have := (hL.mem y hy).2.1
  have := hp.n2
  omega
theorem mine_is {A : List Int} {L T : List Nat} (hA : A = L.map Int.ofNat) (k : Nat) : A.take k ++ T.map Int.ofNat ++ A.drop (k + 1) = (L.take k ++ T ++ L.drop (k + 1)).map Int.ofNat := by
  rw [hA, List.map_append, List.map_append, List.map_take, List.map_drop]
theorem MineT.inAll {p : Pf} (hp : p.Ok) {A : List Int} {L T : List Nat} (hA : A = L.map Int.ofNat) {k x : Nat} (hL : Ch p.n p.sure (-1) (p.n - 1) 0 L) (h : MineT p L k x T) : inAll p.n (A.take k ++ T.map Int.ofNat ++ A.drop (k + 1)) = true := by
  rw [mine_is hA]
  refine nat_in (fun y hy => ?_)
  rcases List.mem_append.1 hy with hy | hy
  · rcases List.mem_append.1 hy with hy | hy
    · exact ch_lt hp hL y (List.mem_of_mem_take hy)
    · exact (h.lt y hy).1
  · exact ch_lt hp hL y (List.mem_of_mem_drop hy)
theorem MineT.few {p : Pf} (hp : p.Ok) {A : List Int} {L T R : List Nat} (hA : A = L.map Int.ofNat) {k x : Nat} (hL : Ch p.n p.sure (-1) (p.n - 1) 0 L) (h : MineT p L k x T) (hR : Mended p L k R)
    (hh : holdsP p (A.take k ++ T.map Int.ofNat ++ A.drop (k + 1)) = true) : R.length ≤ (A.take k ++ T.map Int.ofNat ++ A.drop (k + 1)).length := by
  have hi := h.inAll hp hA hL
  rw [mine_is hA] at hh hi ⊢
  obtain ⟨L', e, hL'⟩ := holds_ch hp hi hh
  have : L.take k ++ T ++ L.drop (k + 1) = L' := (List.map_inj_right (fun x y h => by have h : ((x : Nat) : Int) = ((y : Nat) : Int) := h; omega)).1 e
  rw [← this] at hL'
  rw [List.length_map]
  exact hR.few T hL' (fun hm => (h.lt _ hm).2 rfl)
theorem mem_nat {R : List Nat} {x : Nat} : (x : Int) ∈ R.map Int.ofNat ↔ x ∈ R := by
  rw [List.mem_map]
  exact ⟨fun ⟨y, hy, e⟩ => by have e : ((y : Nat) : Int) = x := e; have : y = x := by omega
                              exact this ▸ hy, fun h => ⟨x, h, rfl⟩⟩
/-- a pillar between two others, with its neighbours -/
structure Mid3 (p : Pf) (A : List Int) (L : List Nat) (k k0 k2 xa xb xc : Nat) : Prop where
  i0 : k0 + 1 = k
  i2 : k2 = k + 1
  lt : k2 < A.length
  ga : A.getD k0 0 = (xa : Int)
  gb : A.getD k 0 = (xb : Int)
  gc : A.getD k2 0 = (xc : Int)
  ea : L.getD (k - 1) 0 = xa
  eb : L.getD k 0 = xb
  ec : L.getD (k + 1) 0 = xc
  ab : xa < xb
  bc : xb < xc
  cn : xc < p.n
  hA : A = L.map Int.ofNat
  hL : Ch p.n p.sure (-1) (p.n - 1) 0 L
  ll : A.length = L.length
theorem mid3 {p : Pf} {A : List Int} {L : List Nat} {k : Nat} (hA : A = L.map Int.ofNat) (hL : Ch p.n p.sure (-1) (p.n - 1) 0 L) (hk : 1 ≤ k ∧ k + 1 < A.length) : ∃ k0 k2 xa xb xc, Mid3 p A L k k0 k2 xa xb xc := by
  have hl : A.length = L.length := by rw [hA, List.length_map]
  refine ⟨k - 1, k + 1, _, _, _, by omega, rfl, hk.2, by rw [hA, getD_map], by rw [hA, getD_map], by rw [hA, getD_map], rfl, rfl, rfl, ?_, ?_, (hL.at.2.2 k (by omega)).2.1, hA, hL, hl⟩
  · exact up_get hL (by omega) (by omega)
  · exact up_get hL (by omega) (by omega)
/-- the beginning of a list, and its rest, can be read -/
theorem rs_take {B : Nat} {w : World} {g n cap k : Nat} {l : List Int} (hl : l.length = n) (hk : k ≤ n) (c : Nat) (h : RS B w (.slice (some ⟨g, 0, none⟩) n cap) n (ints l)) : RS B w (.slice (some ⟨g, 0, none⟩) k c) (l.take k).length (ints (l.take k)) := by
  obtain ⟨a, cap', hv, h⟩ := h
  cases hv
  refine ⟨some ⟨g, 0, none⟩, c, by rw [List.length_take, hl, Nat.min_eq_left hk], fun hne => ?_⟩
  obtain ⟨b, off, h1, h2, h3⟩ := h (fun e => hne (by
    have e2 := congrArg List.length e
    have : l = [] := by simpa [ints] using e2
    subst this
    simp [ints]))
  refine ⟨b, off, h1, h2, fun j u hj => h3 j u ?_⟩
  unfold ints at hj ⊢
  rw [List.map_take, List.getElem?_take] at hj
  split at hj
  · exact hj
  · cases hj
end Go.Proofs.Ytobmhamdkngehaa
