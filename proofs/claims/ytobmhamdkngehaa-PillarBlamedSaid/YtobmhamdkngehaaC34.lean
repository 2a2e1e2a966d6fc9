/-
  Parts of the proof, in the order in which they build: RdP.
-/
import Derived.Test.YtobmhamdkngehaaC1
set_option linter.unusedVariables false
set_option linter.unusedSimpArgs false
namespace Go.Proofs.Ytobmhamdkngehaa

/-- stone k can be at b behind the list l of the stones ahead of it -/
def nextB (d : Rd) (k : Nat) (l : List Nat) (b : Nat) : Bool := canB d k b && (decide (k = 0) || (decide (l.getD (k - 1) 0 < b) && fitsB d.r (l.getD (k - 1) 0) b (d.f.getD (k - 1) (0, 0))))
/-- a list of k stones with the next one, up to number b -/
def extTo (d : Rd) (k : Nat) (l : List Nat) (b : Nat) : List (List Nat) := ((List.range b).filter (nextB d k l)).map fun x => l ++ [x]
/-- all readings of the first k stones, in lexicographic order -/
def rdl (d : Rd) : Nat → List (List Nat)
  | 0 => [[]]
  | k + 1 => (rdl d k).flatMap fun l => extTo d k l (d.r.length + 1)
theorem extTo_succ (d : Rd) (k : Nat) (l : List Nat) (b : Nat) : extTo d k l (b + 1) = if nextB d k l b = true then extTo d k l b ++ [l ++ [b]] else extTo d k l b := by
  unfold extTo
  rw [List.range_succ, List.filter_append, List.filter_cons, List.filter_nil]
  split
  · rw [List.map_append]; rfl
  · rw [List.append_nil]
theorem mem_ext {d : Rd} {k b : Nat} {l x : List Nat} : x ∈ extTo d k l b ↔ ∃ y, y < b ∧ nextB d k l y = true ∧ x = l ++ [y] := by
  unfold extTo
  rw [List.mem_map]
  constructor
  · rintro ⟨y, hy, rfl⟩
    rw [List.mem_filter, List.mem_range] at hy
    exact ⟨y, hy.1, hy.2, rfl⟩
  · rintro ⟨y, h1, h2, rfl⟩
    exact ⟨y, List.mem_filter.2 ⟨List.mem_range.2 h1, h2⟩, rfl⟩
theorem rdl_len {d : Rd} : ∀ {k : Nat} {l : List Nat}, l ∈ rdl d k → l.length = k ∧ ∀ x ∈ l, x ≤ d.r.length
  | 0, l, h => by
    rw [rdl, List.mem_singleton] at h
    subst h
    exact ⟨rfl, fun x hx => by cases hx⟩
  | k + 1, l, h => by
    rw [rdl, List.mem_flatMap] at h
    obtain ⟨l0, h0, h1⟩ := h
    obtain ⟨y, h2, -, rfl⟩ := mem_ext.1 h1
    obtain ⟨h3, h4⟩ := rdl_len h0
    refine ⟨by rw [List.length_append, h3]; rfl, fun x hx => ?_⟩
    rcases List.mem_append.1 hx with h | h
    · exact h4 x h
    · rw [List.mem_singleton] at h; omega
theorem getD_end (l : List Nat) (y : Nat) : (l ++ [y]).getD l.length 0 = y := by
  rw [List.getD_eq_getElem?_getD, List.getElem?_append_right (Nat.le_refl _), Nat.sub_self]; rfl
/-- sums over a list by a key -/
theorem sum_key {α : Type} (key : α → Nat) (g : Nat → Nat) (N : Nat) : ∀ Ls : List α, (∀ l ∈ Ls, key l < N) → (Ls.map fun l => g (key l)).sum = ((List.range N).map fun a => g a * (Ls.filter fun l => key l == a).length).sum
  | [], _ => by
    have : ∀ n, ((List.range n).map fun a => g a * (([] : List α).filter fun l => key l == a).length).sum = 0 := fun n => by
      induction n with
      | zero => rfl
      | succ n ih => rw [List.range_succ, List.map_append, List.sum_append, ih]; simp
    rw [this]; rfl
  | x :: Ls, h => by
    have ih := sum_key key g N Ls (fun l hl => h l (List.mem_cons_of_mem _ hl))
    have hx := h x List.mem_cons_self
    rw [List.map_cons, List.sum_cons, ih]
    have : ∀ n, ((List.range n).map fun a => g a * ((x :: Ls).filter fun l => key l == a).length).sum = (if key x < n then g (key x) else 0) + ((List.range n).map fun a => g a * (Ls.filter fun l => key l == a).length).sum := fun n => by
      induction n with
      | zero => simp
      | succ n ihn =>
        rw [List.range_succ, List.map_append, List.sum_append, ihn, List.map_append, List.sum_append]
        simp only [List.map_cons, List.map_nil, List.sum_cons, List.sum_nil, Nat.add_zero]
        by_cases e : key x = n
        · have h1 : ((x :: Ls).filter fun l => key l == n).length = (Ls.filter fun l => key l == n).length + 1 := by
            rw [List.filter_cons, if_pos (by rw [e]; simp), List.length_cons]
          rw [h1, if_neg (by omega), if_pos (by omega), Nat.mul_add, e]
          omega
        · have h1 : ((x :: Ls).filter fun l => key l == n).length = (Ls.filter fun l => key l == n).length := by
            rw [List.filter_cons, if_neg (by simpa using e)]
          rw [h1]
          by_cases h2 : key x < n
          · rw [if_pos h2, if_pos (by omega)]; omega
          · rw [if_neg h2, if_neg (by omega)]; omega
    rw [this, if_pos hx]
theorem len_filter_flatMap {α β : Type} (f : α → List β) (q : β → Bool) : ∀ Ls : List α, ((Ls.flatMap f).filter q).length = (Ls.map fun l => ((f l).filter q).length).sum
  | [] => rfl
  | x :: Ls => by rw [List.flatMap_cons, List.filter_append, List.length_append, List.map_cons, List.sum_cons, len_filter_flatMap f q Ls]
theorem ext_at (d : Rd) (k : Nat) (l : List Nat) (hl : l.length = k) (b : Nat) : ∀ n, ((extTo d k l n).filter fun x => x.getD k 0 == b).length = if b < n ∧ nextB d k l b = true then 1 else 0
  | 0 => by simp [extTo]
  | n + 1 => by
    have ih := ext_at d k l hl b n
    rw [extTo_succ]
    have e : (l ++ [n]).getD k 0 = n := by rw [← hl]; exact getD_end l n
    by_cases h : nextB d k l n = true
    · rw [if_pos h, List.filter_append, List.length_append, ih, List.filter_cons, List.filter_nil, e]
      by_cases hb : n = b
      · subst hb
        rw [if_neg (by omega), if_pos (by simp), if_pos ⟨by omega, h⟩]; rfl
      · rw [if_neg (show ¬ ((n == b) = true) by simpa using hb)]
        by_cases h2 : b < n ∧ nextB d k l b = true
        · rw [if_pos h2, if_pos ⟨by omega, h2.2⟩]; rfl
        · rw [if_neg h2, if_neg (fun h3 => h2 ⟨by omega, h3.2⟩)]; rfl
    · rw [if_neg h, ih]
      by_cases h2 : b < n ∧ nextB d k l b = true
      · rw [if_pos h2, if_pos ⟨by omega, h2.2⟩]
      · rw [if_neg h2, if_neg]
        rintro ⟨h3, h4⟩
        by_cases hb : n = b
        · subst hb; exact h h4
        · exact h2 ⟨by omega, h4⟩
/-- the readings that end at b are counted by cnt -/
theorem cnt_rdl (d : Rd) : ∀ k b, b ≤ d.r.length → ((rdl d (k + 1)).filter fun l => l.getD k 0 == b).length = cnt d k b
  | 0, b, hb => by
    have h := ext_at d 0 [] rfl b (d.r.length + 1)
    have e : rdl d 1 = extTo d 0 [] (d.r.length + 1) := by
      show (rdl d 0).flatMap _ = _
      rw [rdl, List.flatMap_cons, List.flatMap_nil, List.append_nil]
    rw [e, h]
    have e2 : nextB d 0 [] b = canB d 0 b := by unfold nextB; simp
    rw [e2]
    unfold cnt
    by_cases hc : canB d 0 b = true
    · rw [if_pos ⟨by omega, hc⟩, if_pos hc]
    · rw [if_neg (fun h => hc h.2), if_neg hc]
  | k + 1, b, hb => by
    have e : rdl d (k + 1 + 1) = (rdl d (k + 1)).flatMap fun l => extTo d (k + 1) l (d.r.length + 1) := rfl
    rw [e, len_filter_flatMap]
    have e1 : ((rdl d (k + 1)).map fun l => ((extTo d (k + 1) l (d.r.length + 1)).filter fun x => x.getD (k + 1) 0 == b).length) = (rdl d (k + 1)).map fun l => (fun a => if canB d (k + 1) b = true ∧ a < b ∧ fitsB d.r a b (d.f.getD k (0, 0)) = true then 1 else 0) (l.getD k 0) := by
      refine List.map_congr_left fun l hl => ?_
      rw [ext_at d (k + 1) l (rdl_len hl).1 b]
      have e2 : nextB d (k + 1) l b = (canB d (k + 1) b && (decide (l.getD k 0 < b) && fitsB d.r (l.getD k 0) b (d.f.getD k (0, 0)))) := by unfold nextB; simp
      rw [e2]
      show _ = (if canB d (k + 1) b = true ∧ l.getD k 0 < b ∧ fitsB d.r (l.getD k 0) b (d.f.getD k (0, 0)) = true then 1 else 0)
      by_cases h : canB d (k + 1) b = true ∧ l.getD k 0 < b ∧ fitsB d.r (l.getD k 0) b (d.f.getD k (0, 0)) = true
      · rw [if_pos h, if_pos ⟨by omega, by rw [h.1, decide_eq_true h.2.1, h.2.2]; rfl⟩]
      · rw [if_neg h, if_neg]
        rintro ⟨-, h2⟩
        simp only [Bool.and_eq_true, decide_eq_true_eq] at h2
        exact h h2
    rw [e1, sum_key (fun l => l.getD k 0) (fun a => if canB d (k + 1) b = true ∧ a < b ∧ fitsB d.r a b (d.f.getD k (0, 0)) = true then 1 else 0) (d.r.length + 1) (rdl d (k + 1)) (fun l hl => by
      obtain ⟨h1, h2⟩ := rdl_len hl
      have hk : k < l.length := by omega
      rw [List.getD_eq_getElem?_getD, List.getElem?_eq_getElem hk]
      exact Nat.lt_succ_of_le (h2 _ (List.getElem_mem hk)))]
    rw [cnt]
    by_cases hc : canB d (k + 1) b = true
    · rw [if_pos hc]
      have key : ∀ n, n ≤ d.r.length + 1 → ((List.range n).map fun a => (if canB d (k + 1) b = true ∧ a < b ∧ fitsB d.r a b (d.f.getD k (0, 0)) = true then 1 else 0) * ((rdl d (k + 1)).filter fun l => l.getD k 0 == a).length).sum = ((List.range (min n b)).map fun a => if fitsB d.r a b (d.f.getD k (0, 0)) then cnt d k a else 0).sum := fun n hn => by
        induction n with
        | zero => rw [Nat.zero_min]; rfl
        | succ n ih =>
          rw [List.range_succ, List.map_append, List.sum_append, ih (by omega)]
          simp only [List.map_cons, List.map_nil, List.sum_cons, List.sum_nil, Nat.add_zero]
          rw [cnt_rdl d k n (by omega)]
          by_cases h : n < b
          · rw [Nat.min_eq_left (by omega), Nat.min_eq_left (by omega), List.range_succ, List.map_append, List.sum_append]
            simp only [List.map_cons, List.map_nil, List.sum_cons, List.sum_nil, Nat.add_zero]
            by_cases hf : fitsB d.r n b (d.f.getD k (0, 0)) = true
            · rw [if_pos ⟨hc, h, hf⟩, if_pos hf, Nat.one_mul]
            · rw [if_neg (fun h3 => hf h3.2.2), if_neg hf, Nat.zero_mul]
          · rw [Nat.min_eq_right (by omega), Nat.min_eq_right (by omega), if_neg (fun h3 => h h3.2.1), Nat.zero_mul, Nat.add_zero]
      rw [key _ (Nat.le_refl _), Nat.min_eq_right (by omega)]
    · rw [if_neg hc]
      have : ∀ n, ((List.range n).map fun a => (if canB d (k + 1) b = true ∧ a < b ∧ fitsB d.r a b (d.f.getD k (0, 0)) = true then 1 else 0) * ((rdl d (k + 1)).filter fun l => l.getD k 0 == a).length).sum = 0 := fun n => by
        induction n with
        | zero => rfl
        | succ n ih =>
          rw [List.range_succ, List.map_append, List.sum_append, ih]
          simp only [List.map_cons, List.map_nil, List.sum_cons, List.sum_nil, Nat.add_zero]
          rw [if_neg (fun h3 => hc h3.1), Nat.zero_mul]
      exact this _
/-- how many readings there are -/
theorem rdl_count (d : Rd) (k : Nat) : (rdl d (k + 1)).length = ((List.range (d.r.length + 1)).map (cnt d k)).sum := by
  have h := sum_key (fun l : List Nat => l.getD k 0) (fun _ => 1) (d.r.length + 1) (rdl d (k + 1)) (fun l hl => by
    obtain ⟨h1, h2⟩ := rdl_len hl
    have hk : k < l.length := by omega
    rw [List.getD_eq_getElem?_getD, List.getElem?_eq_getElem hk]
    exact Nat.lt_succ_of_le (h2 _ (List.getElem_mem hk)))
  have e : ((rdl d (k + 1)).map fun _ => 1).sum = (rdl d (k + 1)).length := by
    generalize rdl d (k + 1) = Ls
    induction Ls with
    | nil => rfl
    | cons x Ls ih => rw [List.map_cons, List.sum_cons, ih, List.length_cons]; omega
  rw [e] at h
  rw [h]
  congr 1
  refine List.map_congr_left fun a ha => ?_
  rw [Nat.one_mul, cnt_rdl d k a (by have := List.mem_range.1 ha; omega)]
theorem rdl_total {d : Rd} (h : 1 ≤ d.m.length) : (rdl d d.m.length).length = total d := by
  obtain ⟨k, hk⟩ : ∃ k, d.m.length = k + 1 := ⟨d.m.length - 1, by omega⟩
  unfold total
  rw [hk, rdl_count, Nat.add_sub_cancel]
end Go.Proofs.Ytobmhamdkngehaa
