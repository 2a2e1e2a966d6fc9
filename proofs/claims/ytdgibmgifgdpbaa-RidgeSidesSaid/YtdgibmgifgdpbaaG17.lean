/-
  Parts of the proof, in the order in which they build: RefA, RefB, RefC, RefD, RefE, Par, RefF.
-/
import Derived.BigQuiet
import Derived.Test.YtdgibmgifgdpbaaG15
import Derived.Test.YtdgibmgifgdpbaaG8
import Derived.Test.YtdgibmgifgdpbaaG1
set_option linter.unusedVariables false
set_option linter.unusedSimpArgs false
/-
  The reference's small functions: the contracts of beside and coast.
-/
namespace Go.Proofs.Ytdgibmgifgdpbaa
open Go.RowKit Go.Shelf
open Lim

/-- whether two cells are side by side, as the reference reckons it -/
def bes (m a b : Nat) : Bool :=
  ((((a % m : Nat) : Int) - ((b % m : Nat) : Int)) * (((a % m : Nat) : Int) - ((b % m : Nat) : Int)) + (((a / m : Nat) : Int) - ((b / m : Nat) : Int)) * (((a / m : Nat) : Int) - ((b / m : Nat) : Int))) == 1

theorem sq_range {x : Int} (h : -100 ≤ x ∧ x ≤ 100) : -10000 ≤ x * x ∧ x * x ≤ 10000 := by
  have h1 : 0 ≤ x * x := by
    rcases Int.le_total 0 x with h2 | h2
    · exact Int.mul_nonneg h2 h2
    · have := Int.mul_nonneg (show (0:Int) ≤ -x by omega) (show (0:Int) ≤ -x by omega)
      rw [Int.neg_mul_neg] at this; exact this
  have h2 : (100 - x) * (100 + x) ≥ 0 := Int.mul_nonneg (by omega) (by omega)
  have h3 : (100 - x) * (100 + x) = 10000 - x * x := by
    rw [Int.sub_mul, Int.mul_add, Int.mul_add, Int.mul_comm x 100]; omega
  omega

set_option maxRecDepth 20000 in
set_option maxHeartbeats 1000000 in
theorem beside_any (m a b : Nat) (hv sv : Value) (w : World) (hm : 0 < m ∧ m ≤ 100) (ha : a < 100) (hb : b < 100) :
    Calls Try.prog 84 #[.agg #[.int .i64 m, hv, sv], .int .i64 a, .int .i64 b] w fun e w' => e = .returned (.bool (bes m a b)) ∧ Below w.heap.size w w' := by
  have e1 : (a : Int).tmod (m : Int) = ((a % m : Nat) : Int) := (Int.ofNat_tmod _ _).symm
  have e2 : (b : Int).tmod (m : Int) = ((b % m : Nat) : Int) := (Int.ofNat_tmod _ _).symm
  have e3 : (a : Int).tdiv (m : Int) = ((a / m : Nat) : Int) := (Int.ofNat_tdiv _ _).symm
  have e4 : (b : Int).tdiv (m : Int) = ((b / m : Nat) : Int) := (Int.ofNat_tdiv _ _).symm
  have b1 := Nat.mod_lt a hm.1
  have b2 := Nat.mod_lt b hm.1
  have b3 := Nat.div_le_self a m
  have b4 := Nat.div_le_self b m
  have hm0 : ¬ m = 0 := by omega
  have HE : Hid (bes m a b = ((((a % m : Nat) : Int) - ((b % m : Nat) : Int)) * (((a % m : Nat) : Int) - ((b % m : Nat) : Int)) + (((a / m : Nat) : Int) - ((b / m : Nat) : Int)) * (((a / m : Nat) : Int) - ((b / m : Nat) : Int)) == 1)) := Lib.hid rfl
  generalize bes m a b = r at HE ⊢
  generalize a % m = am at *
  generalize b % m = bm at *
  generalize a / m = ad at *
  generalize b / m = bd at *
  obtain ⟨x, hx⟩ : ∃ x : Int, x = (am : Int) - (bm : Int) := ⟨_, rfl⟩
  obtain ⟨y, hy⟩ : ∃ y : Int, y = (ad : Int) - (bd : Int) := ⟨_, rfl⟩
  have hxr : -100 ≤ x ∧ x ≤ 100 := by omega
  have hyr : -100 ≤ y ∧ y ≤ 100 := by omega
  have s1 := sq_range hxr
  have s2 := sq_range hyr
  have HE2 : Hid (r = (x * x + y * y == 1)) := Lib.hid (by rw [HE.out, ← hx, ← hy])
  clear HE
  have hx' := hx.symm
  have hy' := hy.symm
  clear hx hy
  go_enter Try.func84, Try.ntmps84
  go_wp2
  go_quiet (fail)
  go_wp2
  go_ret
  exact ⟨by rw [HE2.out]; rfl, below_drewN ((Below.refl _ _).alloc (Nat.le_refl _) _) _⟩

/-- side by side is to be neighbours -/
theorem bes_iff {m N a b : Nat} (hm : 0 < m) (hd : N % m = 0) (ha : a < N) (hb : b < N) : bes m a b = true ↔ (b : Int) ∈ nbrL m N a := by
  rw [mem_nbr]
  unfold bes
  rw [beq_iff_eq]
  have h1 := Nat.div_add_mod a m
  have h2 := Nat.div_add_mod b m
  have h3 := Nat.mod_lt a hm
  have h4 := Nat.mod_lt b hm
  generalize a % m = ar at *
  generalize b % m = br at *
  generalize a / m = ad at *
  generalize b / m = bd at *
  have key : ∀ x y : Int, x * x + y * y = 1 ↔ (x = 0 ∧ (y = 1 ∨ y = -1)) ∨ (y = 0 ∧ (x = 1 ∨ x = -1)) := by
    intro x y
    constructor
    · intro h
      have sq : ∀ z : Int, 0 ≤ z * z := fun z => by
        rcases Int.le_total 0 z with h2 | h2
        · exact Int.mul_nonneg h2 h2
        · have := Int.mul_nonneg (show (0:Int) ≤ -z by omega) (show (0:Int) ≤ -z by omega)
          rwa [Int.neg_mul_neg] at this
      have big : ∀ z : Int, z * z ≤ 1 → z = 0 ∨ z = 1 ∨ z = -1 := fun z hz => by
        by_cases h5 : 2 ≤ z
        · have := Int.mul_le_mul h5 h5 (by omega) (by omega); omega
        · by_cases h6 : z ≤ -2
          · have := Int.mul_le_mul (show (2:Int) ≤ -z by omega) (show (2:Int) ≤ -z by omega) (by omega) (by omega)
            rw [Int.neg_mul_neg] at this; omega
          · omega
      have s1 := sq x
      have s2 := sq y
      have b1 := big x (by omega)
      have b2 := big y (by omega)
      rcases b1 with rfl | rfl | rfl <;> rcases b2 with rfl | rfl | rfl <;> simp_all
    · rintro (⟨rfl, rfl | rfl⟩ | ⟨rfl, rfl | rfl⟩) <;> simp
  rw [key]
  constructor
  · rintro (⟨h5, h6⟩ | ⟨h5, h6⟩)
    · have e : ar = br := by omega
      subst e
      rcases h6 with h6 | h6
      · have e : ad = bd + 1 := by omega
        subst e
        rw [Nat.mul_add] at h1
        exact .inr (.inr (.inl ⟨by omega, by omega⟩))
      · have e : bd = ad + 1 := by omega
        subst e
        rw [Nat.mul_add] at h2
        exact .inr (.inr (.inr ⟨by omega, by omega⟩))
    · have e : ad = bd := by omega
      subst e
      rcases h6 with h6 | h6
      · exact .inl ⟨by omega, by omega⟩
      · exact .inr (.inl ⟨by omega, by omega⟩)
  · have uniq : ∀ (q r q' r' : Nat), m * q + r = m * q' + r' → r < m → r' < m → q = q' ∧ r = r' := by
      intro q r q' r' h hr hr'
      have e1 : (m * q + r) / m = q := by rw [Nat.mul_add_div hm, Nat.div_eq_of_lt hr]; omega
      have e2 : (m * q' + r') / m = q' := by rw [Nat.mul_add_div hm, Nat.div_eq_of_lt hr']; omega
      have e : q = q' := by rw [← e1, ← e2, h]
      subst e
      exact ⟨rfl, by omega⟩
    rintro (⟨h5, h6⟩ | ⟨h5, h6⟩ | ⟨h5, h6⟩ | ⟨h5, h6⟩)
    · obtain ⟨rfl, e⟩ := uniq ad (ar - 1) bd br (by omega) (by omega) h4
      exact .inr ⟨by omega, by omega⟩
    · obtain ⟨rfl, e⟩ := uniq ad (ar + 1) bd br (by omega) (by omega) h4
      exact .inr ⟨by omega, by omega⟩
    · have h7 : 0 < ad := by
        rcases Nat.eq_zero_or_pos ad with e | e
        · subst e; omega
        · exact e
      obtain ⟨x, rfl⟩ : ∃ x, ad = x + 1 := ⟨ad - 1, by omega⟩
      rw [Nat.mul_add] at h1
      obtain ⟨rfl, e⟩ := uniq x ar bd br (by omega) h3 h4
      exact .inl ⟨by omega, by omega⟩
    · have h8 : m * (ad + 1) = m * ad + m := by rw [Nat.mul_add]; omega
      obtain ⟨rfl, e⟩ := uniq (ad + 1) ar bd br (by omega) h3 h4
      exact .inl ⟨by omega, by omega⟩

theorem atB_iff_bes {g : Gd} (hg : g.Ok) {c : Nat} (hc : c < g.n) (s : Int) : atB g c s = true ↔ ∃ k, k < g.n ∧ g.ss.getD k 0 = s ∧ bes g.wd c k = true := by
  unfold atB
  rw [List.any_eq_true]
  constructor
  · rintro ⟨x, hx, hs⟩
    obtain ⟨k, rfl, hk⟩ := mem_nbrL hg.w0 hg.dv hc hx
    exact ⟨k, hk, by simpa using hs, (bes_iff hg.w0 hg.dv hc hk).2 hx⟩
  · rintro ⟨k, hk, hs, hb⟩
    exact ⟨k, (bes_iff hg.w0 hg.dv hc hk).1 hb, by simpa using hs⟩

set_option maxRecDepth 20000 in
set_option maxHeartbeats 1000000 in
theorem coast_any {B : Nat} {g : Gd} {hv sv : Value} {c : Nat} {s : Int} {w : World} (hg : g.Ok) (hc : c < g.n) (hB : B ≤ w.heap.size) (hss : RS B w sv g.ss.length (ints g.ss)) :
    Calls Try.prog 56 #[.agg #[.int .i64 g.wd, hv, sv], .int .i64 c, .int .i64 s] w fun e w' => e = .returned (.bool (atB g c s)) ∧ Below w.heap.size w w' := by
  obtain ⟨sa, scap, rfl, hsc⟩ := hss
  have HA := Lib.hid (atB_iff_bes hg hc s)
  have hn := hg.n1
  have HG := Lib.hid hg
  have hcn : c < 100 := Nat.lt_of_lt_of_le hc hn
  clear hg
  go_enter Try.func56, Try.ntmps56
  go_wp2
  generalize hW : World.alloc _ _ = W0
  have hB0 : Below w.heap.size w W0 := by rw [← hW]; exact (Below.refl _ w).alloc (Nat.le_refl _) _
  have f0 : W0.cell? ⟨w.heap.size, 0, none⟩ = some (.int .i64 g.wd) := by rw [← hW]; simp [go_sem]
  have f1 : W0.cell? ⟨w.heap.size, 1, none⟩ = some hv := by rw [← hW]; simp [go_sem]
  have f2 : W0.cell? ⟨w.heap.size, 2, none⟩ = some (.slice sa g.ss.length scap) := by rw [← hW]; simp [go_sem]
  clear hW
  go_loopw [7] (fun i wr => ∃ k : Nat, k ≤ g.ss.length ∧ i = .int .i64 k ∧ Below W0.heap.size W0 wr ∧ Hid (∀ j, j < k → g.ss.getD j 0 = s → bes g.wd c j = false)) (fun i _ => g.ss.length - (intOf i).toNat)
  case atStart => exact ⟨0, Nat.zero_le _, rfl, Below.refl _ _, Lib.hid (fun j hj => absurd hj (by omega))⟩
  case round =>
    obtain ⟨k, hk, rfl, hbr, HN⟩ := hrel
    have r0 := cell_on hbr f0
    have r1 := cell_on hbr f1
    have r2 := cell_on hbr f2
    have hBr : Below w.heap.size w wr := hB0.trans (hbr.mono hB0.size)
    have HBR := Lib.hid hbr
    clear hbr
    by_cases hlt : k < g.ss.length
    · obtain ⟨sb, soff, rfl, hsb, hcell⟩ := hsc (ints_ne (by omega))
      obtain ⟨x, hx⟩ : ∃ x, x = g.ss.getD k 0 := ⟨_, rfl⟩
      have q0 : wr.cell? ⟨sb, soff + k, none⟩ = some (.int .i64 x) := by rw [hx, List.getD_eq_getElem?_getD]; exact cell_below hBr (hcell k _ (ints_at' _ _ hlt)) (by simp; omega)
      have HX := Lib.hid hx
      clear hcell hsc hx
      by_cases hs : x = s
      · subst hs
        have CB := Lib.hid (beside_any g.wd c k hv (.slice (some ⟨sb, soff, none⟩) g.ss.length scap) wr ⟨HG.out.w0, HG.out.w1⟩ hcn (by omega))
        go_wp2_with fail
        refine CB.out.mono ?_
        clear CB
        rintro e w2 ⟨rfl, hb2⟩
        have hB2 := hBr.trans (hb2.mono hBr.size)
        cases hbs : bes g.wd c k with
        | true =>
          have HR := Lib.hid (HA.out.2 ⟨k, hlt, HX.out.symm, hbs⟩)
          go_wp2
          go_ret
          exact ⟨by rw [HR.out]; rfl, hB2⟩
        | false =>
          have HB2 := Lib.hid hbs
          go_wp2
          go_roundw
          case rel => exact ⟨k + 1, by omega, by go_num, HBR.out.trans (hb2.mono HBR.out.size), Lib.hid (fun j hj hjs => by
            by_cases e : j = k
            · subst e; exact HB2.out
            · exact HN.out j (by omega) hjs)⟩
          case measure => simp [intOf]; omega
      · have hs1 : (x == s) = false := by rw [beq_eq_false_iff_ne]; exact hs
        have HS := Lib.hid hs
        clear hs
        go_wp2
        go_roundw
        case rel => exact ⟨k + 1, by omega, by go_num, HBR.out, Lib.hid (fun j hj hjs => by
            by_cases e : j = k
            · subst e; exact absurd (HX.out.trans hjs) HS.out
            · exact HN.out j (by omega) hjs)⟩
        case measure => simp [intOf]; omega
    · obtain rfl : k = g.ss.length := by omega
      have HR : Hid (atB g c s = false) := Lib.hid (by
        rw [Bool.eq_false_iff]
        intro h
        obtain ⟨j, hj, h1, h2⟩ := HA.out.1 h
        have := HN.out j hj h1
        rw [this] at h2; cases h2)
      go_wp2
      go_ret
      exact ⟨by rw [HR.out]; rfl, hBr⟩
end Go.Proofs.Ytdgibmgifgdpbaa
/-
  From where a sea is reached, as the reference asks: the contract of reaches.
-/
namespace Go.Proofs.Ytdgibmgifgdpbaa
open Go.RowKit Go.Shelf
open Lim

/-- the first n answers as cells -/
def bl (n : Nat) (M : Nat → Bool) : List Value := (List.range n).map fun c => Value.bool (M c)
theorem bl_length (n : Nat) (M : Nat → Bool) : (bl n M).length = n := by simp [bl]
theorem bl_at {n : Nat} (M : Nat → Bool) {c : Nat} (h : c < n) : (bl n M)[c]? = some (.bool (M c)) := by simp [bl, h]
theorem bl_set {n : Nat} (M : Nat → Bool) {c : Nat} (h : c < n) : (bl n M).set c (.bool true) = bl n (fun x => if x = c then true else M x) := by
  apply List.ext_getElem?
  intro j
  rw [List.getElem?_set]
  by_cases e : c = j
  · subst e; simp [bl, h]
  · rw [if_neg e]
    by_cases hj : j < n
    · rw [bl_at _ hj, bl_at _ hj, if_neg (fun e' => e e'.symm)]
    · rw [List.getElem?_eq_none (by rw [bl_length]; omega), List.getElem?_eq_none (by rw [bl_length]; omega)]
theorem bl_made (n : Nat) : (madeCells (Value.bool false).cells (n * 1)).toList = bl n (fun _ => false) := by
  rw [Nat.mul_one]
  have : (Value.bool false).cells = #[.bool false] := rfl
  rw [this, toList_madeCells_one]
  apply List.ext_getElem?
  intro j
  by_cases hj : j < n
  · rw [bl_at _ hj]; simp [hj]
  · rw [List.getElem?_eq_none (by simpa using hj), List.getElem?_eq_none (by rw [bl_length]; omega)]

/-- how many are not yet found -/
def cntF (M : Nat → Bool) : Nat → Nat
  | 0 => 0
  | k + 1 => cntF M k + (if M k then 0 else 1)
theorem cntF_far {M : Nat → Bool} {c : Nat} : ∀ k, k ≤ c → cntF (fun x => if x = c then true else M x) k = cntF M k
  | 0, _ => rfl
  | k + 1, h => by
    show cntF _ k + _ = cntF M k + _
    rw [cntF_far k (by omega)]
    simp only [if_neg (show ¬ k = c by omega)]
theorem cntF_set {M : Nat → Bool} {c : Nat} (hM : M c = false) : ∀ k, c < k → cntF (fun x => if x = c then true else M x) k < cntF M k
  | 0, h => absurd h (by omega)
  | k + 1, h => by
    show cntF _ k + _ < cntF M k + _
    by_cases e : k = c
    · subst e
      rw [cntF_far k (Nat.le_refl _)]
      simp [hM]
    · have := cntF_set hM k (by omega)
      simp only [if_neg e]
      omega
/-- the same, by what lies in memory -/
def cntW (W : World) (b : Nat) : Nat → Nat
  | 0 => 0
  | k + 1 => cntW W b k + (match W.cell? ⟨b, k, none⟩ with | some (.bool true) => 0 | _ => 1)
theorem cntW_eq {W : World} {b n : Nat} {M : Nat → Bool} (h : ∀ k, k < n → W.cell? ⟨b, k, none⟩ = some (.bool (M k))) : ∀ k, k ≤ n → cntW W b k = cntF M k
  | 0, _ => rfl
  | k + 1, hk => by
    show cntW W b k + _ = cntF M k + _
    rw [cntW_eq h k (by omega), h k (by omega)]
    cases M k <;> rfl

/-- what is found is right -/
def ReS (g : Gd) (t : Nat → Int) (s h : Int) (M : Nat → Bool) : Prop := ∀ c, c < g.n → M c = true → R g t s h c
/-- nothing more is found at c -/
def ReC (g : Gd) (t : Nat → Int) (s h : Int) (M : Nat → Bool) (c : Nat) : Prop :=
  land g c → t c ≤ h → M c = false → atB g c s = false ∧ ∀ j, j < g.n → M j = true → bes g.wd c j = false
/-- one round over the cells, behind the first k -/
def ReM (g : Gd) (t : Nat → Int) (s h : Int) (M0 M : Nat → Bool) (ag : Bool) (k : Nat) : Prop :=
  ReS g t s h M ∧ ((ag = false ∧ M = M0 ∧ ∀ c, c < k → ReC g t s h M c) ∨ (ag = true ∧ cntF M g.n < cntF M0 g.n))
theorem ReM.done {g : Gd} (hg : g.Ok) {t : Nat → Int} {s h : Int} {M0 M : Nat → Bool} (H : ReM g t s h M0 M false g.n) {c : Nat} (hc : c < g.n) : M c = true ↔ R g t s h c := by
  obtain ⟨hs, h2 | h2⟩ := H
  · refine ⟨hs c hc, fun hr => ?_⟩
    have hcl := h2.2.2
    clear h2
    induction hr with
    | @base c ha hb =>
      by_cases e : M c = true
      · exact e
      · have := (hcl c hc ha.1 ha.2 (by simpa using e)).1
        rw [hb] at this; cases this
    | @step c k ha hn hr ih =>
      by_cases e : M c = true
      · exact e
      · have hk := nb_lt hg hc hn
        have := (hcl c hc ha.1 ha.2 (by simpa using e)).2 k hk (ih hk)
        rw [(bes_iff hg.w0 hg.dv hc hk).2 hn] at this; cases this
  · cases h2.1
theorem ReM.pass {g : Gd} {t : Nat → Int} {s h : Int} {M0 M : Nat → Bool} {ag : Bool} {k : Nat} (H : ReM g t s h M0 M ag k) (hc : ReC g t s h M k) : ReM g t s h M0 M ag (k + 1) := by
  obtain ⟨hs, h2 | h2⟩ := H
  · refine ⟨hs, .inl ⟨h2.1, h2.2.1, fun c hck => ?_⟩⟩
    by_cases e : c = k
    · subst e; exact hc
    · exact h2.2.2 c (by omega)
  · exact ⟨hs, .inr h2⟩
theorem ReM.found {g : Gd} {t : Nat → Int} {s h : Int} {M0 M : Nat → Bool} {ag : Bool} {k : Nat} (H : ReM g t s h M0 M ag k) (hk : k < g.n) (hM : M k = false) (hr : R g t s h k) :
    ReM g t s h M0 (fun x => if x = k then true else M x) true (k + 1) := by
  obtain ⟨hs, h2⟩ := H
  refine ⟨fun c hc hm => ?_, .inr ⟨rfl, ?_⟩⟩
  · by_cases e : c = k
    · subst e; exact hr
    · simp only [if_neg e] at hm; exact hs c hc hm
  · have := cntF_set hM g.n hk
    rcases h2 with h2 | h2
    · rw [h2.2.1] at this ⊢; exact this
    · omega
/-- what reaches asks of a cell's neighbours, behind the first j -/
def ReJ (g : Gd) (s : Int) (M : Nat → Bool) (c : Nat) (is : Bool) (j : Nat) : Prop := is = true ↔ atB g c s = true ∨ ∃ k, k < j ∧ M k = true ∧ bes g.wd c k = true
theorem ReJ.more {g : Gd} {s : Int} {M : Nat → Bool} {c : Nat} {is : Bool} {j : Nat} (H : ReJ g s M c is j) {is' : Bool} (h : is' = (is || (M j && bes g.wd c j))) : ReJ g s M c is' (j + 1) := by
  unfold ReJ at *
  rw [h, Bool.or_eq_true, H, Bool.and_eq_true]
  constructor
  · rintro ((h1 | ⟨k, hk, h2⟩) | h1)
    · exact .inl h1
    · exact .inr ⟨k, by omega, h2⟩
    · exact .inr ⟨j, by omega, h1⟩
  · rintro (h1 | ⟨k, hk, h2⟩)
    · exact .inl (.inl h1)
    · by_cases e : k = j
      · subst e; exact .inr h2
      · exact .inl (.inr ⟨k, by omega, h2⟩)
theorem ReJ.yes {g : Gd} (hg : g.Ok) {t : Nat → Int} {s h : Int} {M : Nat → Bool} {c : Nat} (H : ReJ g s M c true g.n) (hs : ReS g t s h M) (hl : land g c) (ht : t c ≤ h) : R g t s h c := by
  rcases H.1 rfl with h1 | ⟨k, hk, h2, h3⟩
  · exact .base ⟨hl, ht⟩ h1
  · exact .step ⟨hl, ht⟩ ((bes_iff hg.w0 hg.dv hl.1 hk).1 h3) (hs k hk h2)
theorem ReJ.no {g : Gd} {t : Nat → Int} {s h : Int} {M : Nat → Bool} {c : Nat} (H : ReJ g s M c false g.n) : ReC g t s h M c := by
  intro _ _ _
  have h1 : ¬ (atB g c s = true ∨ ∃ k, k < g.n ∧ M k = true ∧ bes g.wd c k = true) := fun h => by have := H.2 h; cases this
  refine ⟨?_, fun j hj hm => ?_⟩
  · rw [Bool.eq_false_iff]; exact fun h => h1 (.inl h)
  · rw [Bool.eq_false_iff]; exact fun h => h1 (.inr ⟨j, hj, hm, h⟩)

/-- the memory of reaches -/
structure ReMem (w : World) (g : Gd) (hv sv : Value) (M : Nat → Bool) (W : World) : Prop where
  own : W.ownsRow (w.heap.size + 1) 4 1 (.slice (some ⟨w.heap.size + 1, 0, none⟩) g.ss.length g.ss.length) g.ss.length (bl g.ss.length M)
  f0 : W.cell? ⟨w.heap.size, 0, none⟩ = some (.int .i64 g.wd)
  f1 : W.cell? ⟨w.heap.size, 1, none⟩ = some hv
  f2 : W.cell? ⟨w.heap.size, 2, none⟩ = some sv
  be : Below w.heap.size w W
theorem ReMem.below {w : World} {g : Gd} {hv sv : Value} {M : Nat → Bool} {W W' : World} (h : ReMem w g hv sv M W) (hb : Below W.heap.size W W') : ReMem w g hv sv M W' :=
  ⟨owns_below h.own hb, cell_on hb h.f0, cell_on hb h.f1, cell_on hb h.f2, h.be.trans (hb.mono h.be.size)⟩
theorem ReMem.at {w : World} {g : Gd} {hv sv : Value} {M : Nat → Bool} {W : World} (h : ReMem w g hv sv M W) {k : Nat} (hk : k < g.ss.length) : W.cell? ⟨w.heap.size + 1, k, none⟩ = some (.bool (M k)) := by
  rw [h.own.cellAt k (by omega), bl_at M hk]
theorem ReMem.fr {w : World} {g : Gd} {hv sv : Value} {M : Nat → Bool} {W : World} (h : ReMem w g hv sv M W) (k : Nat) : W.frozen? ⟨w.heap.size + 1, k, none⟩ = false := h.own.frozenAt k
theorem ReMem.store {w : World} {g : Gd} {hv sv : Value} {M : Nat → Bool} {W : World} (h : ReMem w g hv sv M W) {k : Nat} (hk : k < g.ss.length) : ReMem w g hv sv (fun x => if x = k then true else M x) (W.setCell ⟨w.heap.size + 1, k, none⟩ (.bool true)) := by
  refine ⟨?_, (setCell_far _ _ (by omega)).trans h.f0, (setCell_far _ _ (by omega)).trans h.f1, (setCell_far _ _ (by omega)).trans h.f2, h.be.setCell (p := ⟨w.heap.size + 1, k, none⟩) (Nat.le_succ _) _⟩
  have := (h.own.stored k (.bool true)).1
  rw [bl_set M hk] at this
  exact this
theorem ReMem.cnt {w : World} {g : Gd} {hv sv : Value} {M : Nat → Bool} {W : World} (h : ReMem w g hv sv M W) : cntW W (w.heap.size + 1) g.ss.length = cntF M g.ss.length := cntW_eq (fun k hk => h.at hk) _ (Nat.le_refl _)
def tick : Value → Nat
  | .bool true => 1
  | _ => 0

theorem Try.infoBool : (Try.prog.info? 4).map (fun i => (i.zero, i.size, i.bytes)) = some (some (.bool false), 1, 1) := by kernel_rfl

set_option maxRecDepth 20000 in
set_option maxHeartbeats 1000000 in
theorem reaches_any {B : Nat} {g : Gd} {hv sv tv : Value} {T : List Int} {s h : Int} {w : World} (hg : g.Ok) (hT : T.length = g.ss.length) (hB : B ≤ w.heap.size) (hss : RS B w sv g.ss.length (ints g.ss)) (htt : RS B w tv T.length (ints T)) :
    Calls Try.prog 68 #[.agg #[.int .i64 g.wd, hv, sv], tv, .int .i64 s, .int .i64 h] w fun e w' => ∃ v M, e = .returned v ∧ w'.ownsRow w.heap.size 4 1 v g.ss.length (bl g.ss.length M) ∧ (∀ c, c < g.n → (M c = true ↔ R g (fun c => T.getD c 0) s h c)) ∧ Below w.heap.size w w' := by
  have HSS := Lib.hid hss
  obtain ⟨sa, scap, rfl, hsc⟩ := hss
  obtain ⟨ta, tcap, rfl, htc⟩ := htt
  rw [hT]
  have hn := hg.n1
  have HG := Lib.hid hg
  have HT := Lib.hid hT
  obtain ⟨i0, hi, hz0, hz1, hz2⟩ := info_parts Try.infoBool
  have HI := Lib.hid (And.intro hi (And.intro hz0 (And.intro hz1 hz2)))
  clear hg hT hi hz0 hz1 hz2
  go_enter Try.func68, Try.ntmps68
  go_wp2_with (refine wpList_make_full _ rfl _ _ 72 rfl (w.heap.size + 1) 4 i0 (.bool false) 1 Try.underlying72 HI.out.1 HI.out.2.1 HI.out.2.2.1 .i64 .i64 _ _ g.ss.length rfl rfl rfl rfl (by rw [HI.out.2.2.2]; omega) (by unfold maxLen; omega) (by simp) ?_; intro w1 hown1 hgr1)
  have M0 : ReMem w g hv (.slice sa g.ss.length scap) (fun _ => false) w1 := by
    rw [bl_made, World.size_alloc] at hown1
    have hb : Below (w.heap.size + 1) (w.alloc (.cells #[.int .i64 g.wd, hv, .slice sa g.ss.length scap] 28)) w1 := ⟨hgr1.os, hgr1.tape, hgr1.output, hgr1.size, fun k hk => hgr1.block k (by simpa using hk) (by simp)⟩
    exact ⟨hown1, cell_below hb (by simp [go_sem]) (by simp), cell_below hb (by simp [go_sem]) (by simp), cell_below hb (by simp [go_sem]) (by simp), ((Below.refl _ w).alloc (Nat.le_refl _) _).trans (hb.mono (Nat.le_succ _))⟩
  clear hown1 hgr1
  go_loopw [10] (fun ag wr => ∃ (M : Nat → Bool) (b : Bool), ag = .bool b ∧ ReMem w g hv (.slice sa g.ss.length scap) M wr ∧ Hid (ReS g (fun c => T.getD c 0) s h M ∧ (b = false → ∃ M0, ReM g (fun c => T.getD c 0) s h M0 M false g.n)))
    (fun ag wr => 2 * cntW wr (w.heap.size + 1) g.ss.length + tick ag)
  case atStart => exact ⟨_, true, rfl, M0, Lib.hid (And.intro (fun c _ hm => Bool.noConfusion hm) (fun hb => Bool.noConfusion hb))⟩
  case round =>
    clear M0
    obtain ⟨M0, b, rfl, L0, hP⟩ := hrel
    have hC0 := L0.cnt
    cases b with
    | false =>
      have HD : Hid (∀ c, c < g.n → (M0 c = true ↔ R g (fun c => T.getD c 0) s h c)) := Lib.hid (fun c hc => by obtain ⟨M1, h1⟩ := hP.out.2 rfl; exact h1.done HG.out hc)
      have HO := Lib.hid (And.intro L0.own L0.be)
      clear L0 hP hC0
      go_wp2
      go_ret
      exact ⟨_, M0, rfl, owns_mono HO.out.1 (Nat.le_succ _), HD.out, HO.out.2⟩
    | true =>
    have HC0 := Lib.hid hC0
    clear hC0
    go_wp2
    go_loopw [10, 11] (fun ag i wr => ∃ (k : Nat) (M : Nat → Bool) (b : Bool), k ≤ g.ss.length ∧ i = .int .i64 k ∧ ag = .bool b ∧ ReMem w g hv (.slice sa g.ss.length scap) M wr ∧ Hid (ReM g (fun c => T.getD c 0) s h M0 M b k)) (fun _ i _ => g.ss.length - (intOf i).toNat)
    case atStart => exact ⟨0, M0, false, Nat.zero_le _, rfl, rfl, L0, Lib.hid ⟨hP.out.1, .inl ⟨rfl, rfl, fun c hc => absurd hc (by omega)⟩⟩⟩
    case round =>
      obtain ⟨k, M, b, hk, rfl, rfl, L, hM⟩ := hrel
      clear L0
      by_cases hlt : k < g.ss.length
      · obtain ⟨sb, soff, rfl, hsb, hscell⟩ := hsc (ints_ne (by omega))
        obtain ⟨tb, toff, rfl, htb, htcell⟩ := htc (ints_ne (by have := HT.out; omega))
        have hBr := L.be
        obtain ⟨x, hx⟩ : ∃ x, x = g.ss.getD k 0 := ⟨_, rfl⟩
        obtain ⟨y, hy⟩ : ∃ y, y = T.getD k 0 := ⟨_, rfl⟩
        have q0 : wr.cell? ⟨sb, soff + k, none⟩ = some (.int .i64 x) := by rw [hx, List.getD_eq_getElem?_getD]; exact cell_below hBr (hscell k _ (ints_at' _ _ hlt)) (by simp; omega)
        have q1 : wr.cell? ⟨tb, toff + k, none⟩ = some (.int .i64 y) := by rw [hy, List.getD_eq_getElem?_getD]; exact cell_below hBr (htcell k _ (ints_at' _ _ (by have := HT.out; omega))) (by simp; omega)
        have HX := Lib.hid (And.intro hx hy)
        have HLL := Lib.hid L
        have q2 := L.at hlt
        have p0 := L.f0
        have p1 := L.f1
        have p2 := L.f2
        clear hsc htc hscell htcell hx hy L hBr
        cases hMk : M k with
        | true =>
          have HMk := Lib.hid hMk
          rw [hMk] at q2
          clear hMk
          go_wp2
          go_roundw
          case rel => exact ⟨k + 1, M, b, by omega, by go_num, rfl, HLL.out, Lib.hid (hM.out.pass (fun _ _ h => by rw [HMk.out] at h; cases h))⟩
          case measure => simp [intOf]; omega
        | false =>
        have HMk := Lib.hid hMk
        rw [hMk] at q2
        clear hMk
        by_cases hx0 : x = 0
        · subst hx0
          by_cases hyh : h < y
          · have hd : decide (h < y) = true := by simpa using hyh
            have HY := Lib.hid hyh
            clear hyh
            go_wp2
            go_roundw
            case rel => exact ⟨k + 1, M, b, by omega, by go_num, rfl, HLL.out, Lib.hid (hM.out.pass (fun _ h2 _ => by
              have h3 := HY.out
              have h4 := HX.out.2
              simp only at h2
              omega))⟩
            case measure => simp [intOf]; omega
          · have hd : decide (h < y) = false := by simpa using hyh
            have HL : Hid (land g k ∧ (fun c => T.getD c 0) k ≤ h) := Lib.hid ⟨⟨hlt, HX.out.1.symm⟩, by
              have h4 := HX.out.2
              show T.getD k 0 ≤ h
              omega⟩
            clear hyh
            have CC := Lib.hid (coast_any (B := B) (hv := hv) (s := s) (w := wr) HG.out (c := k) hlt (by have := HLL.out.be.size; omega) (HSS.out.below (HLL.out.be.mono hB)))
            go_wp2_with fail
            refine CC.out.mono ?_
            clear CC
            rintro e w2 ⟨rfl, hb2⟩
            have L2 := HLL.out.below hb2
            clear q0 q1 q2 p0 p1 p2 hb2 hd
            go_wp2
            go_loopw [12, 13] (fun is j W => ∃ (i : Nat) (b2 : Bool), i ≤ g.ss.length ∧ j = .int .i64 i ∧ is = .bool b2 ∧ ReMem w g hv (.slice (some ⟨sb, soff, none⟩) g.ss.length scap) M W ∧ Hid (ReJ g s M k b2 i)) (fun _ j _ => g.ss.length - (intOf j).toNat)
            case atStart => exact ⟨0, _, Nat.zero_le _, rfl, rfl, L2, Lib.hid ⟨fun h => .inl h, fun h => h.elim id (fun ⟨_, h, _⟩ => absurd h (by omega))⟩⟩
            case round =>
              clear L2
              obtain ⟨i, b2, hi, rfl, rfl, L3, hJ⟩ := hrel
              have HL3 := Lib.hid L3
              have p0 := L3.f0
              have p1 := L3.f1
              have p2 := L3.f2
              have fr := L3.fr k
              have hk0 := L3.at hlt
              by_cases hit : i < g.ss.length
              · have q2 := L3.at hit
                clear L3 fr hk0
                cases b2 with
                | true =>
                  go_wp2
                  go_roundw
                  case rel => exact ⟨i + 1, true, by omega, by go_num, rfl, HL3.out, Lib.hid (hJ.out.more rfl)⟩
                  case measure => simp [intOf]; omega
                | false =>
                  cases hMi : M i with
                  | false =>
                    have HMi := Lib.hid hMi
                    rw [hMi] at q2
                    clear hMi
                    go_wp2
                    go_roundw
                    case rel => exact ⟨i + 1, false, by omega, by go_num, rfl, HL3.out, Lib.hid (hJ.out.more (by rw [HMi.out]; rfl))⟩
                    case measure => simp [intOf]; omega
                  | true =>
                    have HMi := Lib.hid hMi
                    rw [hMi] at q2
                    clear hMi
                    have CB := Lib.hid (beside_any g.wd k i hv (.slice (some ⟨sb, soff, none⟩) g.ss.length scap) wr ⟨HG.out.w0, HG.out.w1⟩ (by omega) (by omega))
                    go_wp2_with fail
                    refine CB.out.mono ?_
                    clear CB
                    rintro e w3 ⟨rfl, hb3⟩
                    have L4 := HL3.out.below hb3
                    clear q2 p0 p1 p2 hb3
                    go_wp2
                    go_roundw
                    case rel => exact ⟨i + 1, _, by omega, by go_num, rfl, L4, Lib.hid (hJ.out.more (by rw [HMi.out]; rfl))⟩
                    case measure => simp [intOf]; omega
              · obtain rfl : i = g.ss.length := by omega
                clear L3
                cases b2 with
                | true =>
                  have HS := HL3.out.store hlt
                  go_wp2
                  go_roundw
                  case rel => exact ⟨k + 1, _, true, by omega, by go_num, rfl, HS, Lib.hid (hM.out.found hlt HMk.out (hJ.out.yes HG.out hM.out.1 HL.out.1 HL.out.2))⟩
                  case measure => simp [intOf]; omega
                | false =>
                  go_wp2
                  go_roundw
                  case rel => exact ⟨k + 1, M, b, by omega, by go_num, rfl, HL3.out, Lib.hid (hM.out.pass hJ.out.no)⟩
                  case measure => simp [intOf]; omega
        · have hx1 : (x == 0) = false := by rw [beq_eq_false_iff_ne]; exact hx0
          have HX0 := Lib.hid hx0
          clear hx0
          go_wp2
          go_roundw
          case rel => exact ⟨k + 1, M, b, by omega, by go_num, rfl, HLL.out, Lib.hid (hM.out.pass (fun h1 _ _ => by
            have h2 := h1.2
            rw [← HX.out.1] at h2
            exact absurd h2 HX0.out))⟩
          case measure => simp [intOf]; omega
      · obtain rfl : k = g.ss.length := by omega
        have HLL := Lib.hid L
        have hcn := L.cnt
        have HCN := Lib.hid hcn
        clear L hcn
        go_wp2
        go_roundw
        case rel => exact ⟨M, b, rfl, HLL.out, Lib.hid ⟨hM.out.1, fun hb => ⟨M0, by subst hb; exact hM.out⟩⟩⟩
        case measure =>
          have h1 := HCN.out
          have h2 := HC0.out
          have h3 := hM.out.2
          show 2 * cntW _ (w.heap.size + 1) g.ss.length + tick (.bool b) < 2 * cntW _ (w.heap.size + 1) g.ss.length + tick (.bool true)
          rw [h1, h2]
          rcases h3 with h3 | h3
          · rw [h3.1, h3.2.1]; simp [tick]
          · have h4 := h3.2
            rw [h3.1]
            show 2 * cntF M g.n + 1 < 2 * cntF M0 g.n + 1
            omega
end Go.Proofs.Ytdgibmgifgdpbaa
/-
  Passes as the reference finds them: the contracts of ends, Pass, drain, least.
-/
namespace Go.Proofs.Ytdgibmgifgdpbaa
open Go.RowKit Go.Shelf
open Lim

/-- one end of a span -/
def endOf (b : Bool) (s : Int × Int) : Int := if b then s.2 else s.1
set_option maxRecDepth 20000 in
set_option maxHeartbeats 1000000 in
theorem ends_any {B : Nat} {hv sv : Value} {wd : Int} {hs : List (Int × Int)} {b : Bool} {w : World} (hn : hs.length ≤ 100) (hB : B ≤ w.heap.size) (hh : RS B w hv hs.length (spans hs)) :
    Calls Try.prog 78 #[.agg #[.int .i64 wd, hv, sv], .bool b] w fun e w' =>
      ∃ v, e = .returned v ∧ w'.ownsRow w.heap.size 3 1 v hs.length (ints (hs.map (endOf b))) ∧ Below w.heap.size w w' := by
  obtain ⟨ha, hcap, rfl, hha⟩ := hh
  obtain ⟨i0, hi, hz0, hz1, hz2⟩ := info_parts Try.infoInt
  have HI := Lib.hid (And.intro hi (And.intro hz0 (And.intro hz1 hz2)))
  clear hi hz0 hz1 hz2
  go_enter Try.func78, Try.ntmps78
  go_wp2
  generalize hW : World.alloc _ _ = W0
  have hB0 : Below w.heap.size w W0 := by rw [← hW]; exact (Below.refl _ w).alloc (Nat.le_refl _) _
  have hsz : w.heap.size + 1 = W0.heap.size := by rw [← hW]; simp
  have f1 : W0.cell? ⟨w.heap.size, 1, none⟩ = some (.slice ha hs.length hcap) := by rw [← hW]; simp [go_sem]
  clear hW
  go_loopw [5, 6] (fun v i wr => ∃ k : Nat, k ≤ hs.length ∧ i = .int .i64 k ∧ wr.ownsRow (w.heap.size + 1) 3 1 v k (ints ((hs.take k).map (endOf b))) ∧ wr.cell? ⟨w.heap.size, 1, none⟩ = some (.slice ha hs.length hcap) ∧ Below w.heap.size w wr)
    (fun _ i _ => hs.length - (intOf i).toNat)
  case atStart => exact ⟨0, Nat.zero_le _, rfl, World.ownsRow_nil _ _ _ _, f1, hB0⟩
  case round =>
    obtain ⟨k, hk, rfl, hown, fr, hbr⟩ := hrel
    by_cases hlt : k < hs.length
    · obtain ⟨hb, hoff, rfl, hhb, hcell⟩ := hha (spans_ne (by omega))
      obtain ⟨lo, hlo⟩ : ∃ lo, lo = hs[k].1 := ⟨_, rfl⟩
      obtain ⟨up, hup⟩ : ∃ up, up = hs[k].2 := ⟨_, rfl⟩
      have q0 : wr.cell? ⟨hb, hoff + k * 2, none⟩ = some (.int .i64 lo) := by rw [hlo]; exact cell_below hbr (hcell _ _ (spans_lo _ k hlt)) (by simp; omega)
      have q1 : wr.cell? ⟨hb, hoff + k * 2 + 1, none⟩ = some (.int .i64 up) := by rw [hup]; exact cell_below hbr (hcell _ _ (spans_hi _ k hlt)) (by simp; omega)
      have HS : Hid (ints ((hs.take (k + 1)).map (endOf b)) = ints ((hs.take k).map (endOf b)) ++ [.int .i64 (if b then up else lo)]) := by
        rw [ints_map_snoc _ _ k hlt, hlo, hup]; cases b <;> rfl
      clear hlo hup
      have hsz2 : w.heap.size < wr.heap.size := World.block_lt_of_cell? _ _ fr
      have HO := Lib.hid hown
      clear hcell hha f1 hB0 hsz hown
      cases b with
      | true =>
        go_wp2_with (at_builtin; refine wpList_append_own _ rfl _ _ 23 rfl (w.heap.size + 1) 3 i0 (.int .i64 0) 1 8 Try.underlying23 HI.out.1 HI.out.2.1 HI.out.2.2.1 HI.out.2.2.2 rfl (by decide) _ _ _ rfl (HO.out.alloc _) ⟨wr.heap.size, 0, none⟩ 1 1 [.int .i64 up] rfl rfl (cell_one_new _ _ _) (by simp [Value.oneCell']) (by unfold maxLen; omega) (by omega) (by simp; omega) ?_; intro v' w3 hown3 hgrow _)
        have hB3 : Below w.heap.size w w3 := (hbr.alloc hbr.size _).grown hgrow (by simp; omega) (fun j e => by have := HO.out.lt j e; omega)
        have fr3 := hgrow.cell (cell_al _ fr) (fun e => by have := HO.out.lt _ e.symm; simp at this; omega)
        clear hgrow fr q0 q1 hbr
        go_wp2
        go_roundw
        case rel => exact ⟨k + 1, by omega, by go_num, by rw [HS.out]; exact hown3, fr3, hB3⟩
        case measure => simp [intOf]; omega
      | false =>
        go_wp2_with (at_builtin; refine wpList_append_own _ rfl _ _ 23 rfl (w.heap.size + 1) 3 i0 (.int .i64 0) 1 8 Try.underlying23 HI.out.1 HI.out.2.1 HI.out.2.2.1 HI.out.2.2.2 rfl (by decide) _ _ _ rfl (HO.out.alloc _) ⟨wr.heap.size, 0, none⟩ 1 1 [.int .i64 lo] rfl rfl (cell_one_new _ _ _) (by simp [Value.oneCell']) (by unfold maxLen; omega) (by omega) (by simp; omega) ?_; intro v' w3 hown3 hgrow _)
        have hB3 : Below w.heap.size w w3 := (hbr.alloc hbr.size _).grown hgrow (by simp; omega) (fun j e => by have := HO.out.lt j e; omega)
        have fr3 := hgrow.cell (cell_al _ fr) (fun e => by have := HO.out.lt _ e.symm; simp at this; omega)
        clear hgrow fr q0 q1 hbr
        go_wp2
        go_roundw
        case rel => exact ⟨k + 1, by omega, by go_num, by rw [HS.out]; exact hown3, fr3, hB3⟩
        case measure => simp [intOf]; omega
    · obtain rfl : k = hs.length := by omega
      go_wp2
      go_ret
      refine ⟨_, rfl, ?_, hbr⟩
      simpa using owns_mono hown (Nat.le_succ _)

/-- the first n numbers as cells -/
def lv (n : Nat) (p : Nat → Int) : List Value := (List.range n).map fun c => Value.int .i64 (p c)
theorem lv_length (n : Nat) (p : Nat → Int) : (lv n p).length = n := by simp [lv]
theorem lv_at {n : Nat} (p : Nat → Int) {c : Nat} (h : c < n) : (lv n p)[c]? = some (.int .i64 (p c)) := by simp [lv, h]
theorem lv_ext {n : Nat} {p q : Nat → Int} (h : ∀ c, c < n → p c = q c) : lv n p = lv n q := by
  unfold lv
  apply List.map_congr_left
  intro c hc
  rw [h c (List.mem_range.1 hc)]
theorem lv_set {n : Nat} (p : Nat → Int) (x : Int) {c : Nat} (h : c < n) : (lv n p).set c (.int .i64 x) = lv n (fun y => if y = c then x else p y) := by
  apply List.ext_getElem?
  intro j
  rw [List.getElem?_set]
  by_cases e : c = j
  · subst e; simp [lv, h]
  · rw [if_neg e]
    by_cases hj : j < n
    · rw [lv_at _ hj, lv_at _ hj, if_neg (fun e' => e e'.symm)]
    · rw [List.getElem?_eq_none (by rw [lv_length]; omega), List.getElem?_eq_none (by rw [lv_length]; omega)]
theorem lv_made (n : Nat) : (madeCells (Value.int .i64 0).cells (n * 1)).toList = lv n (fun _ => 0) := by
  rw [Nat.mul_one]
  have : (Value.int .i64 0).cells = #[.int .i64 0] := rfl
  rw [this, toList_madeCells_one]
  apply List.ext_getElem?
  intro j
  by_cases hj : j < n
  · rw [lv_at _ hj]; simp [hj]
  · rw [List.getElem?_eq_none (by simpa using hj), List.getElem?_eq_none (by rw [lv_length]; omega)]
theorem lv_ints (n : Nat) (p : Nat → Int) : lv n p = ints ((List.range n).map p) := by simp [lv, ints]

/-- what Pass has found behind the first k heights -/
def PTo (g : Gd) (T : List Int) (s : Int) (k : Nat) (p : Nat → Int) : Prop :=
  ∀ c, c < g.n → p c ≤ 10001 ∧ (p c < 10001 → R g (fun c => T.getD c 0) s (p c) c) ∧ ∀ i, i < k → R g (fun c => T.getD c 0) s (T.getD i 0) c → p c ≤ T.getD i 0
/-- Pass behind the first j cells, at one height -/
def upP (p : Nat → Int) (M : Nat → Bool) (x : Int) (j : Nat) (c : Nat) : Int := if c < j ∧ M c = true then min (p c) x else p c
theorem PTo.zero (g : Gd) (T : List Int) (s : Int) : PTo g T s 0 (fun _ => 10001) := fun c _ => ⟨Int.le_refl _, fun h => absurd h (by show ¬ (10001 : Int) < 10001; omega), fun i hi => absurd hi (by omega)⟩
theorem PTo.next {g : Gd} {T : List Int} {s : Int} {k : Nat} {p : Nat → Int} {M : Nat → Bool} {x : Int} (h : PTo g T s k p) (hx : x = T.getD k 0) (hM : ∀ c, c < g.n → (M c = true ↔ R g (fun c => T.getD c 0) s x c)) : PTo g T s (k + 1) (upP p M x g.n) := by
  intro c hc
  obtain ⟨h1, h2, h3⟩ := h c hc
  unfold upP
  by_cases hm : M c = true
  · rw [if_pos ⟨hc, hm⟩]
    refine ⟨by omega, fun hlt => ?_, fun i hi hr => ?_⟩
    · rcases Int.le_total (p c) x with h4 | h4
      · rw [Int.min_eq_left h4] at hlt ⊢; exact h2 hlt
      · rw [Int.min_eq_right h4]; exact (hM c hc).1 hm
    · by_cases e : i = k
      · subst e; omega
      · have := h3 i (by omega) hr; omega
  · rw [if_neg (fun h => hm h.2)]
    refine ⟨h1, h2, fun i hi hr => ?_⟩
    by_cases e : i = k
    · subst e; rw [← hx] at hr; exact absurd ((hM c hc).2 hr) hm
    · exact h3 i (by omega) hr
theorem PTo.done {g : Gd} (hg : g.Ok) {T : List Int} {s : Int} {p : Nat → Int} (h : PTo g T s g.n p) : IsPass g (fun c => T.getD c 0) s p := by
  have key : ∀ c x, R g (fun c => T.getD c 0) s x c → ∃ i, i < g.n ∧ T.getD i 0 ≤ x ∧ R g (fun c => T.getD c 0) s (T.getD i 0) c := by
    intro c x hr
    induction hr with
    | @base c ha hb => exact ⟨c, ha.1.1, ha.2, .base ⟨ha.1, Int.le_refl _⟩ hb⟩
    | @step c k ha hn hr ih =>
      obtain ⟨i, hi, h1, h2⟩ := ih
      rcases Int.le_total (T.getD c 0) (T.getD i 0) with h3 | h3
      · exact ⟨i, hi, h1, .step ⟨ha.1, h3⟩ hn h2⟩
      · exact ⟨c, ha.1.1, ha.2, .step ⟨ha.1, Int.le_refl _⟩ hn (R.le h3 h2)⟩
  refine ⟨fun c hc => (h c hc).1, fun c hc => (h c hc).2.1, fun c hc x hr => ?_⟩
  obtain ⟨i, hi, h1, h2⟩ := key c x hr
  have := (h c hc).2.2 i hi h2
  omega

/-- the memory of Pass -/
structure PaMem (w : World) (g : Gd) (hv sv : Value) (p : Nat → Int) (W : World) : Prop where
  own : W.ownsRow (w.heap.size + 1) 3 1 (.slice (some ⟨w.heap.size + 1, 0, none⟩) g.ss.length g.ss.length) g.ss.length (lv g.ss.length p)
  f0 : W.cell? ⟨w.heap.size, 0, none⟩ = some (.int .i64 g.wd)
  f1 : W.cell? ⟨w.heap.size, 1, none⟩ = some hv
  f2 : W.cell? ⟨w.heap.size, 2, none⟩ = some sv
  be : Below w.heap.size w W
theorem PaMem.below {w : World} {g : Gd} {hv sv : Value} {p : Nat → Int} {W W' : World} (h : PaMem w g hv sv p W) (hb : Below W.heap.size W W') : PaMem w g hv sv p W' :=
  ⟨owns_below h.own hb, cell_on hb h.f0, cell_on hb h.f1, cell_on hb h.f2, h.be.trans (hb.mono h.be.size)⟩
theorem PaMem.at {w : World} {g : Gd} {hv sv : Value} {p : Nat → Int} {W : World} (h : PaMem w g hv sv p W) {k : Nat} (hk : k < g.ss.length) : W.cell? ⟨w.heap.size + 1, k, none⟩ = some (.int .i64 (p k)) := by
  rw [h.own.cellAt k (by omega), lv_at p hk]
theorem PaMem.fr {w : World} {g : Gd} {hv sv : Value} {p : Nat → Int} {W : World} (h : PaMem w g hv sv p W) (k : Nat) : W.frozen? ⟨w.heap.size + 1, k, none⟩ = false := h.own.frozenAt k
theorem PaMem.store {w : World} {g : Gd} {hv sv : Value} {p : Nat → Int} {W : World} (h : PaMem w g hv sv p W) {k : Nat} (hk : k < g.ss.length) (x : Int) : PaMem w g hv sv (fun y => if y = k then x else p y) (W.setCell ⟨w.heap.size + 1, k, none⟩ (.int .i64 x)) := by
  refine ⟨?_, (setCell_far _ _ (by omega)).trans h.f0, (setCell_far _ _ (by omega)).trans h.f1, (setCell_far _ _ (by omega)).trans h.f2, h.be.setCell (p := ⟨w.heap.size + 1, k, none⟩) (Nat.le_succ _) _⟩
  have := (h.own.stored k (.int .i64 x)).1
  rw [lv_set p x hk] at this
  exact this
theorem PaMem.ext {w : World} {g : Gd} {hv sv : Value} {p q : Nat → Int} {W : World} (h : PaMem w g hv sv p W) (e : ∀ c, c < g.ss.length → p c = q c) : PaMem w g hv sv q W :=
  ⟨by rw [← lv_ext e]; exact h.own, h.f0, h.f1, h.f2, h.be⟩

set_option maxRecDepth 20000 in
set_option maxHeartbeats 2000000 in
theorem Pass_any {B : Nat} {g : Gd} {hv sv tv : Value} {T : List Int} {s : Int} {w : World} (hg : g.Ok) (hT : T.length = g.ss.length) (hB : B ≤ w.heap.size) (hss : RS B w sv g.ss.length (ints g.ss)) (htt : RS B w tv T.length (ints T)) :
    Calls Try.prog 60 #[.agg #[.int .i64 g.wd, hv, sv], tv, .int .i64 s] w fun e w' => ∃ v p, e = .returned v ∧ w'.ownsRow w.heap.size 3 1 v g.ss.length (ints ((List.range g.ss.length).map p)) ∧ IsPass g (fun c => T.getD c 0) s p ∧ Below w.heap.size w w' := by
  have HSS := Lib.hid hss
  have HTT := Lib.hid htt
  obtain ⟨sa, scap, rfl, -⟩ := hss
  obtain ⟨ta, tcap, rfl, htc⟩ := htt
  rw [hT]
  have hn := hg.n1
  have HG := Lib.hid hg
  have HT := Lib.hid hT
  obtain ⟨i0, hi, hz0, hz1, hz2⟩ := info_parts Try.infoInt
  have HI := Lib.hid (And.intro hi (And.intro hz0 (And.intro hz1 hz2)))
  clear hg hT hi hz0 hz1 hz2
  go_enter Try.func60, Try.ntmps60
  go_wp2_with (refine wpList_make_full _ rfl _ _ 23 rfl (w.heap.size + 1) 3 i0 (.int .i64 0) 1 Try.underlying23 HI.out.1 HI.out.2.1 HI.out.2.2.1 .i64 .i64 _ _ g.ss.length rfl rfl rfl rfl (by rw [HI.out.2.2.2]; omega) (by unfold maxLen; omega) (by simp) ?_; intro w1 hown1 hgr1)
  have M0 : PaMem w g hv (.slice sa g.ss.length scap) (fun _ => 0) w1 := by
    rw [lv_made, World.size_alloc] at hown1
    have hb : Below (w.heap.size + 1) (w.alloc (.cells #[.int .i64 g.wd, hv, .slice sa g.ss.length scap] 28)) w1 := ⟨hgr1.os, hgr1.tape, hgr1.output, hgr1.size, fun k hk => hgr1.block k (by simpa using hk) (by simp)⟩
    exact ⟨hown1, cell_below hb (by simp [go_sem]) (by simp), cell_below hb (by simp [go_sem]) (by simp), cell_below hb (by simp [go_sem]) (by simp), ((Below.refl _ w).alloc (Nat.le_refl _) _).trans (hb.mono (Nat.le_succ _))⟩
  clear hown1 hgr1
  go_loopw [8] (fun i wr => ∃ k : Nat, k ≤ g.ss.length ∧ i = .int .i64 k ∧ PaMem w g hv (.slice sa g.ss.length scap) (fun c => if c < k then 10001 else 0) wr) (fun i _ => g.ss.length - (intOf i).toNat)
  case atStart => exact ⟨0, Nat.zero_le _, rfl, M0.ext (fun c _ => by rw [if_neg (by omega)])⟩
  case round =>
    clear M0
    obtain ⟨k, hk, rfl, L⟩ := hrel
    have HL := Lib.hid L
    by_cases hlt : k < g.ss.length
    · have q0 := L.at hlt
      have fr := L.fr k
      clear L
      go_wp2
      go_roundw
      case rel => exact ⟨k + 1, by omega, by go_num, (HL.out.store hlt 10001).ext (fun c _ => by
          by_cases e : c = k
          · subst e; rw [if_pos rfl, if_pos (by omega)]
          · rw [if_neg e]
            by_cases h2 : c < k
            · rw [if_pos h2, if_pos (by omega)]
            · rw [if_neg h2, if_neg (by omega)])⟩
      case measure => simp [intOf]; omega
    · obtain rfl : k = g.ss.length := by omega
      have L1 : PaMem w g hv (.slice sa g.ss.length scap) (fun _ => 10001) wr := L.ext (fun c hc => by rw [if_pos hc])
      clear L HL
      go_wp2
      go_loopw [9] (fun i W => ∃ (k : Nat) (p : Nat → Int), k ≤ g.ss.length ∧ i = .int .i64 k ∧ PaMem w g hv (.slice sa g.ss.length scap) p W ∧ Hid (PTo g T s k p)) (fun i _ => g.ss.length - (intOf i).toNat)
      case atStart => exact ⟨0, _, Nat.zero_le _, rfl, L1, Lib.hid (PTo.zero g T s)⟩
      case round =>
        clear L1
        obtain ⟨k, p, hk, rfl, L, hP⟩ := hrel
        by_cases hlt : k < g.ss.length
        · obtain ⟨tb, toff, rfl, htb, htcell⟩ := htc (ints_ne (by have := HT.out; omega))
          obtain ⟨x, hx⟩ : ∃ x, x = T.getD k 0 := ⟨_, rfl⟩
          have q0 : wr.cell? ⟨tb, toff + k, none⟩ = some (.int .i64 x) := by rw [hx, List.getD_eq_getElem?_getD]; exact cell_below L.be (htcell k _ (ints_at' _ _ (by have := HT.out; omega))) (by simp; omega)
          have HX := Lib.hid hx
          have HQ0 : Hid (w.cell? ⟨tb, toff + k, none⟩ = some (.int .i64 x)) := Lib.hid (by rw [hx, List.getD_eq_getElem?_getD]; exact htcell k _ (ints_at' _ _ (by have := HT.out; omega)))
          have HLS : Hid (w.heap.size + 1 < wr.heap.size) := Lib.hid (by have := World.block_lt_of_cell? _ _ (L.at hlt); exact this)
          have hC : (fun W => W.cell? ⟨w.heap.size, 0, none⟩ = some (.int .i64 g.wd) ∧ W.cell? ⟨w.heap.size, 1, none⟩ = some hv ∧ W.cell? ⟨w.heap.size, 2, none⟩ = some (.slice sa g.ss.length scap) ∧ W.cell? ⟨tb, toff + k, none⟩ = some (.int .i64 x)) wr.drew := ⟨L.f0, L.f1, L.f2, q0⟩
          have HL : Hid (PaMem w g hv (.slice sa g.ss.length scap) p wr.drew) := Lib.hid (L.below (Below.refl _ wr).drew)
          have CR := Lib.hid (reaches_any (B := B) (hv := hv) (s := s) (h := x) (w := wr.drew) HG.out HT.out (by have := L.be.size; exact Nat.le_trans hB this) (HSS.out.below ((L.be.mono hB).drew)) (HTT.out.below ((L.be.mono hB).drew)))
          rw [HT.out] at CR
          clear htc htcell hx L
          go_wp2_with fail
          refine Lim.regC' (fun W => W.cell? ⟨w.heap.size, 0, none⟩ = some (.int .i64 g.wd) ∧ W.cell? ⟨w.heap.size, 1, none⟩ = some hv ∧ W.cell? ⟨w.heap.size, 2, none⟩ = some (.slice sa g.ss.length scap) ∧ W.cell? ⟨tb, toff + k, none⟩ = some (.int .i64 x)) [] #[false, false, false, false, false, false, false, false, false] (by kernel_rfl) rfl ?_
          refine Lim.stepR 0 (fun _ => trivial) rfl (by kernel_rfl) (fun _ _ _ _ h => h) hC rfl ?_; apply Exists.intro; refine ⟨?_, ?_⟩
          · rintro w ⟨r1, r2, r3, r4⟩; go_simp; try with_reducible rfl
          simp only [Act.put, List.setIfInBounds_toArray, List.set_cons_succ, List.set_cons_zero]
          refine Lim.stepR 1 (fun _ => trivial) rfl (by kernel_rfl) (fun _ _ _ _ h => h) hC rfl ?_; apply Exists.intro; refine ⟨?_, ?_⟩
          · rintro w ⟨r1, r2, r3, r4⟩; go_simp; try with_reducible rfl
          simp only [Act.put, List.setIfInBounds_toArray, List.set_cons_succ, List.set_cons_zero]
          refine Lim.stepR 2 (fun _ => trivial) rfl (by kernel_rfl) (fun _ _ _ _ h => h) hC rfl ?_; apply Exists.intro; refine ⟨?_, ?_⟩
          · rintro w ⟨r1, r2, r3, r4⟩; go_simp; try with_reducible rfl
          simp only [Act.put, List.setIfInBounds_toArray, List.set_cons_succ, List.set_cons_zero]
          refine Lim.stepR 3 (fun _ => trivial) rfl (by kernel_rfl) (fun _ _ _ _ h => h) hC rfl ?_; apply Exists.intro; refine ⟨?_, ?_⟩
          · rintro w ⟨r1, r2, r3, r4⟩; go_simp; try with_reducible rfl
          simp only [Act.put, List.setIfInBounds_toArray, List.set_cons_succ, List.set_cons_zero]
          refine Lim.stepR 4 (fun _ => trivial) rfl (by kernel_rfl) (fun _ _ _ _ h => h) hC rfl ?_; apply Exists.intro; refine ⟨?_, ?_⟩
          · rintro w ⟨r1, r2, r3, r4⟩; go_simp; try with_reducible rfl
          simp only [Act.put, List.setIfInBounds_toArray, List.set_cons_succ, List.set_cons_zero]
          refine Lim.stepR 5 (fun _ => trivial) rfl (by kernel_rfl) (fun _ _ _ _ h => h) hC rfl ?_; apply Exists.intro; refine ⟨?_, ?_⟩
          · rintro w ⟨r1, r2, r3, r4⟩; go_simp; try with_reducible rfl
          simp only [Act.put, List.setIfInBounds_toArray, List.set_cons_succ, List.set_cons_zero]
          refine Lim.stepR 6 (fun _ => trivial) rfl (by kernel_rfl) (fun _ _ _ _ h => h) hC rfl ?_; apply Exists.intro; refine ⟨?_, ?_⟩
          · rintro w ⟨r1, r2, r3, r4⟩; go_simp; try with_reducible rfl
          simp only [Act.put, List.setIfInBounds_toArray, List.set_cons_succ, List.set_cons_zero]
          refine Lim.stepE 7 (fun _ => trivial) rfl (by kernel_rfl) rfl (fun K hK => ?_)   -- E call
          go_simp
          refine ⟨rfl, (callsIn_wide.2 CR.out).mono ?_⟩
          rintro e w3 ⟨v3, M, rfl, hown3, hM3, hb3⟩
          have L3 := HL.out.below hb3
          have HM := Lib.hid hM3
          have HO3 := Lib.hid hown3
          have q0' := cell_on hb3 hC.2.2.2
          clear hM3 hown3 CR HL
          refine hK _ _ ⟨L3.f0, L3.f1, L3.f2, q0'⟩ ?_
          simp only [Act.put, List.setIfInBounds_toArray, List.set_cons_succ, List.set_cons_zero]
          refine Lim.stepR 8 (fun _ => trivial) rfl (by kernel_rfl) (fun _ _ _ _ h => h) ⟨L3.f0, L3.f1, L3.f2, q0'⟩ rfl ?_; apply Exists.intro; refine ⟨?_, ?_⟩
          · rintro w ⟨r1, r2, r3, r4⟩; go_simp; try with_reducible rfl
          simp only [Act.put, List.setIfInBounds_toArray, List.set_cons_succ, List.set_cons_zero]
          refine Lim.stepD (by kernel_rfl) ?_
          have hsz3 := L3.be.size
          have HQT : Hid (∀ W : World, Below w.heap.size w W → W.cell? ⟨tb, toff + k, none⟩ = some (.int .i64 x)) := Lib.hid (fun W hb => cell_below hb HQ0.out (by show tb < w.heap.size; omega))
          obtain ⟨a3, c3, rfl, hc3⟩ := RS.of_owns HO3.out
          obtain ⟨b3, o3, rfl, hb3lt, hcell3⟩ := hc3 (fun e => by have h1 := congrArg List.length e; rw [bl_length] at h1; exact absurd h1 (by show ¬ g.ss.length = 0; omega))
          have HC3 : Hid (∀ c, c < g.ss.length → w3.cell? ⟨b3, o3 + c, none⟩ = some (.bool (M c))) := Lib.hid (fun c hc => hcell3 c _ (bl_at M hc))
          have HB3 : Hid (b3 ≠ w.heap.size + 1) := Lib.hid (by
            have h1 := HO3.out.lt b3 rfl
            have h2 := HLS.out
            simp at h1
            omega)
          clear hc3 hcell3 hb3lt q0' HO3
          go_wp2
          go_loopw [11] (fun i W => ∃ j : Nat, j ≤ g.ss.length ∧ i = .int .i64 j ∧ PaMem w g hv (.slice sa g.ss.length scap) (upP p M x j) W ∧ Hid (∀ c, c < g.ss.length → W.cell? ⟨b3, o3 + c, none⟩ = some (.bool (M c)))) (fun i _ => g.ss.length - (intOf i).toNat)
          case atStart => exact ⟨0, Nat.zero_le _, rfl, L3.ext (fun c _ => by unfold upP; rw [if_neg (by omega)]), HC3⟩
          case round =>
            clear L3 hsz3
            obtain ⟨j, hj, rfl, L, HCC⟩ := hrel
            have HL := Lib.hid L
            by_cases hjt : j < g.ss.length
            · obtain ⟨y, hy⟩ : ∃ y, y = upP p M x j j := ⟨_, rfl⟩
              have q0 : wr.cell? ⟨tb, toff + k, none⟩ = some (.int .i64 x) := HQT.out wr L.be
              have q1 := L.at hjt
              rw [← hy] at q1
              have q2 := HCC.out j hjt
              have fr := L.fr j
              have HY := Lib.hid hy
              clear hy L
              cases hMj : M j with
              | true =>
                have HMj := Lib.hid hMj
                rw [hMj] at q2
                clear hMj
                go_wp2_with fail
                have hC : (fun W => W.cell? ⟨w.heap.size + 1, j, none⟩ = some (.int .i64 y) ∧ W.cell? ⟨tb, toff + k, none⟩ = some (.int .i64 x)) wr.drew := ⟨q1, q0⟩
                refine Lim.regC' (fun W => W.cell? ⟨w.heap.size + 1, j, none⟩ = some (.int .i64 y) ∧ W.cell? ⟨tb, toff + k, none⟩ = some (.int .i64 x)) [12] #[false, false, false, false, false, false, false, false, false, false, false, false, false] (by kernel_rfl) rfl ?_
                refine Lim.stepR 0 (fun _ => trivial) rfl (by kernel_rfl) (fun _ _ _ _ h => h) hC rfl ?_; apply Exists.intro; refine ⟨?_, ?_⟩
                · rintro w ⟨r1, r2⟩; go_simp; try with_reducible rfl
                simp only [Act.put, List.setIfInBounds_toArray, List.set_cons_succ, List.set_cons_zero]
                refine Lim.stepR 1 (fun _ => trivial) rfl (by kernel_rfl) (fun _ _ _ _ h => h) hC rfl ?_; apply Exists.intro; refine ⟨?_, ?_⟩
                · rintro w ⟨r1, r2⟩; go_simp; try with_reducible rfl
                simp only [Act.put, List.setIfInBounds_toArray, List.set_cons_succ, List.set_cons_zero]
                refine Lim.stepR 2 (fun _ => trivial) rfl (by kernel_rfl) (fun _ _ _ _ h => h) hC rfl ?_; apply Exists.intro; refine ⟨?_, ?_⟩
                · rintro w ⟨r1, r2⟩; go_simp; try with_reducible rfl
                simp only [Act.put, List.setIfInBounds_toArray, List.set_cons_succ, List.set_cons_zero]
                refine Lim.stepR 3 (fun _ => trivial) rfl (by kernel_rfl) (fun _ _ _ _ h => h) hC rfl ?_; apply Exists.intro; refine ⟨?_, ?_⟩
                · rintro w ⟨r1, r2⟩; go_simp; try with_reducible rfl
                simp only [Act.put, List.setIfInBounds_toArray, List.set_cons_succ, List.set_cons_zero]
                refine Lim.stepR 4 (fun _ => trivial) rfl (by kernel_rfl) (fun _ _ _ _ h => h) hC rfl ?_; apply Exists.intro; refine ⟨?_, ?_⟩
                · rintro w ⟨r1, r2⟩; go_simp; try with_reducible rfl
                simp only [Act.put, List.setIfInBounds_toArray, List.set_cons_succ, List.set_cons_zero]
                refine Lim.stepR 5 (fun _ => trivial) rfl (by kernel_rfl) (fun _ _ _ _ h => h) hC rfl ?_; apply Exists.intro; refine ⟨?_, ?_⟩
                · rintro w ⟨r1, r2⟩; go_simp; try with_reducible rfl
                simp only [Act.put, List.setIfInBounds_toArray, List.set_cons_succ, List.set_cons_zero]
                refine Lim.stepR 6 (fun _ => trivial) rfl (by kernel_rfl) (fun _ _ _ _ h => h) hC rfl ?_; apply Exists.intro; refine ⟨?_, ?_⟩
                · rintro w ⟨r1, r2⟩; go_simp; try with_reducible rfl
                simp only [Act.put, List.setIfInBounds_toArray, List.set_cons_succ, List.set_cons_zero]
                refine Lim.stepR 7 (fun _ => trivial) rfl (by kernel_rfl) (fun _ _ _ _ h => h) hC rfl ?_; apply Exists.intro; refine ⟨?_, ?_⟩
                · rintro w ⟨r1, r2⟩; go_simp; try with_reducible rfl
                simp only [Act.put, List.setIfInBounds_toArray, List.set_cons_succ, List.set_cons_zero]
                refine Lim.stepR 8 (fun _ => trivial) rfl (by kernel_rfl) (fun _ _ _ _ h => h) hC rfl ?_; apply Exists.intro; refine ⟨?_, ?_⟩
                · rintro w ⟨r1, r2⟩; go_simp; try with_reducible rfl
                simp only [Act.put, List.setIfInBounds_toArray, List.set_cons_succ, List.set_cons_zero]
                refine Lim.stepR 9 (fun _ => trivial) rfl (by kernel_rfl) (fun _ _ _ _ h => h) hC rfl ?_; apply Exists.intro; refine ⟨?_, ?_⟩
                · rintro w ⟨r1, r2⟩; go_simp; try with_reducible rfl
                simp only [Act.put, List.setIfInBounds_toArray, List.set_cons_succ, List.set_cons_zero]
                refine Lim.stepR 10 (fun _ => trivial) rfl (by kernel_rfl) (fun _ _ _ _ h => h) hC rfl ?_; apply Exists.intro; refine ⟨?_, ?_⟩
                · rintro w ⟨r1, r2⟩; go_simp; try with_reducible rfl
                simp only [Act.put, List.setIfInBounds_toArray, List.set_cons_succ, List.set_cons_zero]
                refine Lim.stepR 11 (fun _ => trivial) rfl (by kernel_rfl) (fun _ _ _ _ h => h) hC rfl ?_; apply Exists.intro; refine ⟨?_, ?_⟩
                · rintro w ⟨r1, r2⟩; go_simp; try with_reducible rfl
                simp only [Act.put, List.setIfInBounds_toArray, List.set_cons_succ, List.set_cons_zero]
                refine Lim.stepX 12 (fun _ => trivial) rfl (by kernel_rfl) rfl rfl (fun K hK => ?_)
                go_simp
                refine hK _ _ ?_
                refine Lim.segC (fun _ => True) [] (Lim.stepD (by kernel_rfl) ?_)
                have HS2 := (HL.out.store hjt (min y x)).below (Below.refl _ _).drew
                have e : ∀ c, c < g.ss.length → (if c = j then min y x else upP p M x j c) = upP p M x (j + 1) c := by
                  intro c hc
                  have h1 := HMj.out
                  by_cases e : c = j
                  · subst e
                    have h2 : y = p c := by rw [HY.out]; unfold upP; rw [if_neg (show ¬ (c < c ∧ M c = true) by omega)]
                    have h3 : upP p M x (c + 1) c = min (p c) x := by unfold upP; rw [if_pos (show c < c + 1 ∧ M c = true from ⟨by omega, h1⟩)]
                    rw [if_pos rfl, h3, h2]
                  · rw [if_neg e]
                    unfold upP
                    by_cases h2 : c < j ∧ M c = true
                    · rw [if_pos h2, if_pos ⟨by omega, h2.2⟩]
                    · rw [if_neg h2, if_neg (fun h3 => h2 ⟨by omega, h3.2⟩)]
                have HS3 := HS2.ext e
                have HCC3 : Hid (∀ c, c < g.ss.length → (wr.setCell ⟨w.heap.size + 1, j, none⟩ (.int .i64 (min y x))).drew.cell? ⟨b3, o3 + c, none⟩ = some (.bool (M c))) := Lib.hid (fun c hc => (setCell_far _ _ (fun e => HB3.out e.symm)).trans (HCC.out c hc))
                clear HS2 e
                go_wp2
                go_roundw
                case rel => exact ⟨j + 1, by omega, by go_num, HS3, HCC3⟩
                case measure => simp [intOf]; omega
              | false =>
                have HMj := Lib.hid hMj
                rw [hMj] at q2
                clear hMj
                go_wp2
                go_roundw
                case rel => exact ⟨j + 1, by omega, by go_num, HL.out.ext (fun c _ => by
                  have h1 := HMj.out
                  unfold upP
                  by_cases h2 : c < j ∧ M c = true
                  · rw [if_pos h2, if_pos ⟨by omega, h2.2⟩]
                  · rw [if_neg h2, if_neg (fun h3 => by
                      by_cases e : c = j
                      · subst e; rw [h1] at h3; exact absurd h3.2 (by decide)
                      · exact h2 ⟨by omega, h3.2⟩)]), HCC⟩
                case measure => simp [intOf]; omega
            · obtain rfl : j = g.ss.length := by omega
              clear L
              go_wp2
              go_roundw
              case rel => exact ⟨k + 1, _, by omega, by go_num, HL.out, Lib.hid (hP.out.next HX.out HM.out)⟩
              case measure => simp [intOf]; omega
        · obtain rfl : k = g.ss.length := by omega
          have HO := Lib.hid (And.intro L.own L.be)
          clear L
          go_wp2
          go_ret
          exact ⟨_, p, rfl, by rw [← lv_ints]; exact owns_mono HO.out.1 (Nat.le_succ _), hP.out.done HG.out, HO.out.2⟩
end Go.Proofs.Ytdgibmgifgdpbaa
/-
  How a cell drains, the saddle, and which grounds are right, as the reference reckons it: the contracts of drain, least, Check.
-/
namespace Go.Proofs.Ytdgibmgifgdpbaa
open Go.RowKit Go.Shelf
open Lim

set_option maxRecDepth 20000 in
set_option maxHeartbeats 1000000 in
theorem drain_any {B : Nat} {wd : Int} {hv sv av bv : Value} {ss : List Int} {a b : Nat → Int} {c : Nat} {w : World} (hn : ss.length ≤ 100) (hc : c < ss.length) (hB : B ≤ w.heap.size) (hss : RS B w sv ss.length (ints ss))
    (ha : RS B w av ss.length (ints ((List.range ss.length).map a))) (hb : RS B w bv ss.length (ints ((List.range ss.length).map b))) :
    Calls Try.prog 61 #[.agg #[.int .i64 wd, hv, sv], av, bv, .int .i64 c] w fun e w' => e = .returned (.int .i64 (drainOf ss a b c)) ∧ Below w.heap.size w w' := by
  obtain ⟨sa, scap, rfl, hsc⟩ := hss
  obtain ⟨aa, acap, rfl, hac⟩ := ha
  obtain ⟨ba, bcap, rfl, hbc⟩ := hb
  obtain ⟨sb, soff, rfl, hsb, hscell⟩ := hsc (ints_ne (by omega))
  obtain ⟨ab, aoff, rfl, hab, hacell⟩ := hac (ints_ne (by simp; omega))
  obtain ⟨bb, boff, rfl, hbb, hbcell⟩ := hbc (ints_ne (by simp; omega))
  obtain ⟨z, hz⟩ : ∃ z, z = ss.getD c 0 := ⟨_, rfl⟩
  obtain ⟨x, hx⟩ : ∃ x, x = a c := ⟨_, rfl⟩
  obtain ⟨y, hy⟩ : ∃ y, y = b c := ⟨_, rfl⟩
  have B1 : Below w.heap.size w (w.alloc (.cells #[.int .i64 wd, hv, .slice (some ⟨sb, soff, none⟩) ss.length scap] 28)) := (Below.refl _ w).alloc (Nat.le_refl _) _
  have q0 : (w.alloc (.cells #[.int .i64 wd, hv, .slice (some ⟨sb, soff, none⟩) ss.length scap] 28)).cell? ⟨sb, soff + c, none⟩ = some (.int .i64 z) := by rw [hz, List.getD_eq_getElem?_getD]; exact cell_al _ (hscell c _ (ints_at' _ _ hc))
  have q1 : (w.alloc (.cells #[.int .i64 wd, hv, .slice (some ⟨sb, soff, none⟩) ss.length scap] 28)).cell? ⟨ab, aoff + c, none⟩ = some (.int .i64 x) := by rw [hx]; exact cell_al _ (hacell c _ (by simp [ints, hc]))
  have q2 : (w.alloc (.cells #[.int .i64 wd, hv, .slice (some ⟨sb, soff, none⟩) ss.length scap] 28)).cell? ⟨bb, boff + c, none⟩ = some (.int .i64 y) := by rw [hy]; exact cell_al _ (hbcell c _ (by simp [ints, hc]))
  have q3 : (w.alloc (.cells #[.int .i64 wd, hv, .slice (some ⟨sb, soff, none⟩) ss.length scap] 28)).cell? ⟨w.heap.size, 2, none⟩ = some (.slice (some ⟨sb, soff, none⟩) ss.length scap) := by simp [go_sem]
  have HD : Hid (drainOf ss a b c = if z = 0 then drainI x y else z) := Lib.hid (by unfold drainOf; rw [← hz, ← hx, ← hy])
  clear hscell hacell hbcell hsc hac hbc hz hx hy
  by_cases hz0 : z = 0
  · subst hz0
    have go : ∀ c1 c2 c3 c4 : Bool, (x == 10001) = c1 → (y == 10001) = c2 → decide (x < y) = c3 → decide (y < x) = c4 → Calls Try.prog 61 #[.agg #[.int .i64 wd, hv, .slice (some ⟨sb, soff, none⟩) ss.length scap], .slice (some ⟨ab, aoff, none⟩) ss.length acap, .slice (some ⟨bb, boff, none⟩) ss.length bcap, .int .i64 c] w fun e w' => e = .returned (.int .i64 (drainOf ss a b c)) ∧ Below w.heap.size w w' := by
      intro c1 c2 c3 c4 h1 h2 h3 h4
      have hd : Hid (drainOf ss a b c = if c1 && c2 then 0 else if c3 then 1 else if c4 then 2 else 3) := Lib.hid (by
        rw [HD.out, if_pos rfl]
        unfold drainI
        rw [← h1, ← h2, ← h3, ← h4]
        simp)
      cases c1 <;> cases c2 <;> cases c3 <;> cases c4 <;>
        (go_enter Try.func61, Try.ntmps61
         go_wp2
         try (go_quiet (fail); go_wp2)
         try (go_quiet (fail); go_wp2)
         go_ret
         exact ⟨by rw [hd.out]; rfl, by first | exact B1 | exact below_drewN B1 _ | exact below_drewN (below_drewN B1 _) _⟩)
    exact go _ _ _ _ rfl rfl rfl rfl
  · have hz1 : (z == 0) = false := by rw [beq_eq_false_iff_ne]; exact hz0
    have HZ := Lib.hid hz0
    clear hz0
    go_enter Try.func61, Try.ntmps61
    go_wp2
    go_ret
    exact ⟨by rw [HD.out, if_neg HZ.out]; rfl, B1⟩

set_option maxRecDepth 20000 in
set_option maxHeartbeats 1000000 in
theorem least_any {B : Nat} {g : Gd} {hv sv tv : Value} {T : List Int} {w : World} (hg : g.Ok) (hT : T.length = g.ss.length) (hB : B ≤ w.heap.size) (hss : RS B w sv g.ss.length (ints g.ss)) (htt : RS B w tv T.length (ints T)) :
    Calls Try.prog 67 #[.agg #[.int .i64 g.wd, hv, sv], tv] w fun e w' => ∃ r : Int, e = .returned (.int .i64 r) ∧ IsSaddle g (fun c => T.getD c 0) r ∧ Below w.heap.size w w' := by
  have B1 : Below w.heap.size w (w.alloc (.cells #[.int .i64 g.wd, hv, sv] 28)) := (Below.refl _ w).alloc (Nat.le_refl _) _
  have CP := Lib.hid (Pass_any (B := B) (hv := hv) (s := 2) (w := w.alloc (.cells #[.int .i64 g.wd, hv, sv] 28)) hg hT (by have := B1.size; omega) (hss.below (B1.mono hB)) (htt.below (B1.mono hB)))
  have HSS := Lib.hid hss
  obtain ⟨sa, scap, rfl, hsc⟩ := hss
  obtain ⟨ta, tcap, rfl, -⟩ := htt
  have hn := hg.n1
  have HG := Lib.hid hg
  have HT := Lib.hid hT
  rw [hT] at *
  clear hg hT
  go_enter Try.func67, Try.ntmps67
  go_wp2_with fail
  have z0 : (w.alloc (.cells #[.int .i64 g.wd, hv, .slice sa g.ss.length scap] 28)).cell? ⟨w.heap.size, 0, none⟩ = some (.int .i64 g.wd) := by simp [go_sem]
  have z1 : (w.alloc (.cells #[.int .i64 g.wd, hv, .slice sa g.ss.length scap] 28)).cell? ⟨w.heap.size, 1, none⟩ = some hv := by simp [go_sem]
  have z2 : (w.alloc (.cells #[.int .i64 g.wd, hv, .slice sa g.ss.length scap] 28)).cell? ⟨w.heap.size, 2, none⟩ = some (.slice sa g.ss.length scap) := by simp [go_sem]
  refine CP.out.mono ?_
  clear CP
  rintro e w1 ⟨v1, p, rfl, hown, hp, hb1⟩
  replace z0 := cell_on hb1 z0
  replace z1 := cell_on hb1 z1
  replace z2 := cell_on hb1 z2
  have hb2 : Below w.heap.size w w1 := B1.trans (hb1.mono B1.size)
  have HP := Lib.hid hp
  obtain ⟨pa, pcap, rfl, hpc⟩ := RS.of_owns hown
  clear hown hp B1 hb1
  go_wp2
  go_loopw [6, 7] (fun v i wr => ∃ k : Nat, k ≤ g.ss.length ∧ i = .int .i64 k ∧ ∃ r : Int, v = .int .i64 r ∧ Hid (SadTo g p k r) ∧ Below w1.heap.size w1 wr) (fun _ i _ => g.ss.length - (intOf i).toNat)
  case atStart => exact ⟨0, Nat.zero_le _, rfl, 10001, rfl, Lib.hid ⟨Int.le_refl _, fun h => absurd h (by omega), fun c hc => absurd hc (by omega)⟩, Below.refl _ _⟩
  case round =>
    obtain ⟨k, hk, rfl, r, rfl, hs, hbr⟩ := hrel
    have hsr := hbr.size
    have BR := hb2.trans (hbr.mono hb2.size)
    by_cases hlt : k < g.ss.length
    · obtain ⟨sb, soff, rfl, hsb, hscell⟩ := hsc (ints_ne (by omega))
      obtain ⟨pb, poff, rfl, hpb, hpcell⟩ := hpc (ints_ne (by simp; omega))
      obtain ⟨z, hz⟩ : ∃ z, z = g.ss.getD k 0 := ⟨_, rfl⟩
      obtain ⟨y, hy⟩ : ∃ y, y = p k := ⟨_, rfl⟩
      have q0 : wr.cell? ⟨sb, soff + k, none⟩ = some (.int .i64 z) := by rw [hz, List.getD_eq_getElem?_getD]; exact cell_below BR (hscell k _ (ints_at' _ _ hlt)) (by show sb < w.heap.size; omega)
      have q1 : wr.cell? ⟨pb, poff + k, none⟩ = some (.int .i64 y) := by rw [hy]; exact cell_on hbr (hpcell k _ (by simp [ints, hlt]))
      have r0 := cell_on hbr z0
      have r1 := cell_on hbr z1
      have r2 := cell_on hbr z2
      have HZ := Lib.hid (And.intro hz hy)
      clear hz hy hscell hpcell hsc hpc
      by_cases hz0 : z = 0
      · subst hz0
        have HL : Hid (land g k) := Lib.hid ⟨hlt, HZ.out.1.symm⟩
        have CA := Lib.hid (coast_any (B := B) (hv := hv) (s := 1) (w := wr) HG.out hlt (by have := BR.size; omega) (HSS.out.below (BR.mono hB)))
        go_wp2_with fail
        refine CA.out.mono ?_
        rintro e w5 ⟨rfl, hb5⟩
        have BR5 := hbr.trans (hb5.mono hsr)
        replace q1 := cell_on hb5 q1
        clear CA hb5 q0 r0 r1 r2
        cases hat : atB g k 1 with
        | true =>
          have HA := Lib.hid hat
          clear hat
          go_wp2
          go_roundw
          case rel =>
            refine ⟨k + 1, by omega, by go_num, _, rfl, Lib.hid ?_, BR5⟩
            have h := hs.out.take HL.out HA.out
            rw [← HZ.out.2] at h
            first
              | exact h
              | (have e : (if y < r then y else r) = min r y := by rw [Int.min_def]; split <;> split <;> omega
                 rw [e]; exact h)
          case measure => simp [intOf]; omega
        | false =>
          have HA := Lib.hid hat
          clear hat
          go_wp2
          go_roundw
          case rel => exact ⟨k + 1, by omega, by go_num, r, rfl, Lib.hid (hs.out.skip (fun h => by rw [HA.out] at h; exact absurd h.2 (by decide))), BR5⟩
          case measure => simp [intOf]; omega
      · have hz2 : (z == 0) = false := by rw [beq_eq_false_iff_ne]; exact hz0
        have HZ0 := Lib.hid hz0
        clear hz0
        go_wp2
        go_roundw
        case rel => exact ⟨k + 1, by omega, by go_num, r, rfl, Lib.hid (hs.out.skip (fun h => HZ0.out (by rw [HZ.out.1]; exact h.1.2))), hbr⟩
        case measure => simp [intOf]; omega
    · obtain rfl : k = g.ss.length := by omega
      go_wp2
      go_ret
      exact ⟨r, rfl, hs.out.done HP.out, BR⟩

/-- whether a sea or a span is bad at k -/
def badAt (hs : List (Int × Int)) (ss : List Int) (k : Nat) : Bool := !inB (ss.getD k 0) 0 2 || (!inB (hs.getD k (0, 0)).1 0 (hs.getD k (0, 0)).2 || decide (10000 < (hs.getD k (0, 0)).2))
theorem bad_of {hs : List (Int × Int)} {ss : List Int} (hl : ss.length = hs.length) {k : Nat} (hk : k < hs.length) (h : badAt hs ss k = true) : (badSea ss || badSpan hs) = true := by
  unfold badAt at h
  rw [Bool.or_eq_true] at h ⊢
  rcases h with h | h
  · exact .inl (List.any_eq_true.2 ⟨k, List.mem_range.2 (by omega), h⟩)
  · exact .inr (List.any_eq_true.2 ⟨k, List.mem_range.2 hk, h⟩)
theorem bad_no {hs : List (Int × Int)} {ss : List Int} (hl : ss.length = hs.length) (h : ∀ k, k < hs.length → badAt hs ss k = false) : (badSea ss || badSpan hs) = false := by
  rw [Bool.eq_false_iff]
  intro h2
  rw [Bool.or_eq_true] at h2
  rcases h2 with h2 | h2
  · obtain ⟨k, hk, h3⟩ := List.any_eq_true.1 h2
    have := h k (by have := List.mem_range.1 hk; omega)
    unfold badAt at this
    rw [h3] at this; cases this
  · obtain ⟨k, hk, h3⟩ := List.any_eq_true.1 h2
    have := h k (List.mem_range.1 hk)
    unfold badAt at this
    rw [h3, Bool.or_true] at this; cases this
/-- how often each sea's number stands among the first k -/
def Many (ss : List Int) (k : Nat) (f : Nat → Nat) : Prop := ∀ i, i < 3 → f i ≤ k ∧ (f i = 0 ↔ ∀ j, j < k → ss.getD j 0 ≠ i)
theorem Many.zero (ss : List Int) : Many ss 0 (fun _ => 0) := fun i _ => ⟨Nat.le_refl _, ⟨fun _ j hj => absurd hj (by omega), fun _ => rfl⟩⟩
theorem Many.more {ss : List Int} {k : Nat} {f : Nat → Nat} (h : Many ss k f) {z : Nat} (hz : (z : Int) = ss.getD k 0) : Many ss (k + 1) (fun i => if i = z then f z + 1 else f i) := by
  intro i hi
  obtain ⟨h1, h2⟩ := h i hi
  by_cases e : i = z
  · subst e
    simp only [if_pos]
    exact ⟨by omega, ⟨fun h => absurd h (by omega), fun h => absurd hz.symm (h k (by omega))⟩⟩
  · simp only [if_neg e]
    refine ⟨by omega, h2.trans ⟨fun h j hj => ?_, fun h j hj => h j (by omega)⟩⟩
    by_cases e2 : j = k
    · subst e2; rw [← hz]; intro e3; exact e (by omega)
    · exact h j (by omega)
theorem Many.none {ss : List Int} {f : Nat → Nat} (h : Many ss ss.length f) {i : Nat} (hi : i < 3) : f i = 0 ↔ ¬ (i : Int) ∈ ss := by
  rw [(h i hi).2]
  constructor
  · intro h2 hm
    obtain ⟨j, hj, e⟩ := List.mem_iff_getElem.1 hm
    refine h2 j hj ?_
    rw [List.getD_eq_getElem?_getD, List.getElem?_eq_getElem hj]; exact e
  · intro h2 j hj e
    refine h2 ?_
    rw [← e, List.getD_eq_getElem?_getD, List.getElem?_eq_getElem hj]
    exact List.getElem_mem hj
/-- the memory of Check -/
structure ChMem (w : World) (wd : Int) (hv sv : Value) (f : Nat → Nat) (W : World) : Prop where
  f0 : W.cell? ⟨w.heap.size, 0, none⟩ = some (.int .i64 wd)
  f1 : W.cell? ⟨w.heap.size, 1, none⟩ = some hv
  f2 : W.cell? ⟨w.heap.size, 2, none⟩ = some sv
  m : ∀ i, i < 3 → W.cell? ⟨w.heap.size + 1, i, none⟩ = some (.int .i64 (f i)) ∧ W.frozen? ⟨w.heap.size + 1, i, none⟩ = false
  be : Below w.heap.size w W
theorem ChMem.below {w : World} {wd : Int} {hv sv : Value} {f : Nat → Nat} {W W' : World} (h : ChMem w wd hv sv f W) (hb : Below W.heap.size W W') : ChMem w wd hv sv f W' :=
  ⟨cell_on hb h.f0, cell_on hb h.f1, cell_on hb h.f2, fun i hi => ⟨cell_on hb (h.m i hi).1, frozen_on hb (h.m i hi).1 (h.m i hi).2⟩, h.be.trans (hb.mono h.be.size)⟩
theorem ChMem.store {w : World} {wd : Int} {hv sv : Value} {f : Nat → Nat} {W : World} (h : ChMem w wd hv sv f W) {z : Nat} (hz : z < 3) (x : Nat) : ChMem w wd hv sv (fun i => if i = z then x else f i) (W.setCell ⟨w.heap.size + 1, z, none⟩ (.int .i64 x)) := by
  refine ⟨(setCell_far _ _ (by omega)).trans h.f0, (setCell_far _ _ (by omega)).trans h.f1, (setCell_far _ _ (by omega)).trans h.f2, fun i hi => ⟨?_, by rw [World.frozen?_setCell]; exact (h.m i hi).2⟩, h.be.setCell (p := ⟨w.heap.size + 1, z, none⟩) (Nat.le_succ _) _⟩
  by_cases e : i = z
  · subst e; rw [if_pos rfl]; exact World.cell?_setCell_same' _ _ _ (by rw [(h.m i hi).1]; rfl)
  · rw [if_neg e, setCell_off _ _ (fun e2 => e e2.symm)]; exact (h.m i hi).1

set_option maxRecDepth 20000 in
set_option maxHeartbeats 1000000 in
theorem rcheck_count {B : Nat} {wd : Int} {hv sv : Value} {hs : List (Int × Int)} {ss : List Int} {w : World} (hg : goodCount wd hs ss = false) (hh : RS B w hv hs.length (spans hs)) (hss : RS B w sv ss.length (ints ss)) :
    Calls Try.prog 16 #[.agg #[.int .i64 wd, hv, sv]] w fun e w' => e = .returned (.int .i64 (openErr wd hs ss)) ∧ Below w.heap.size w w' := by
  have he : openErr wd hs ss = 3 := by rw [openErr, if_pos hg]
  rw [he]
  clear he
  obtain ⟨ha, hcap, rfl, -⟩ := hh
  obtain ⟨sa, scap, rfl, -⟩ := hss
  have BR : Hid (∀ o, Below w.heap.size w (w.alloc o)) := Lib.hid (fun o => (Below.refl _ w).alloc (Nat.le_refl _) o)
  by_cases h1 : hs.length < 1
  · have d1 : decide ((hs.length : Int) < 1) = true := by simp; omega
    go_enter Try.func16, Try.ntmps16
    go_wp2
    go_ret
    exact ⟨rfl, BR.out _⟩
  have d1 : decide ((hs.length : Int) < 1) = false := by simp; omega
  by_cases h2 : 100 < hs.length
  · have d2 : decide ((100 : Int) < hs.length) = true := by simp; omega
    go_enter Try.func16, Try.ntmps16
    go_wp2
    go_ret
    exact ⟨rfl, BR.out _⟩
  have d2 : decide ((100 : Int) < hs.length) = false := by simp; omega
  by_cases h3 : wd < 1
  · have d3 : decide (wd < 1) = true := by simpa using h3
    go_enter Try.func16, Try.ntmps16
    go_wp2
    go_ret
    exact ⟨rfl, BR.out _⟩
  have d3 : decide (wd < 1) = false := by simpa using h3
  obtain ⟨m, rfl⟩ : ∃ m : Nat, wd = m := ⟨wd.toNat, by omega⟩
  have e5 : (hs.length : Int).tmod (m : Int) = ((hs.length % m : Nat) : Int) := (Int.ofNat_tmod _ _).symm
  have hm0 : ¬ m = 0 := by omega
  by_cases h4 : hs.length % m = 0
  · have h5 : ¬ ss.length = hs.length := fun h5 => by simp [goodCount, h4, h5] at hg; omega
    have hne : ((ss.length : Int) == hs.length) = false := by rw [beq_eq_false_iff_ne]; omega
    have hne2 : ((ss.length : Int) != hs.length) = true := by rw [bne, hne]; rfl
    have e6 : (hs.length : Int).tmod (m : Int) = 0 := by rw [e5, h4]; rfl
    clear e5
    go_enter Try.func16, Try.ntmps16
    go_wp2
    go_ret
    exact ⟨rfl, BR.out _⟩
  · have e6 : decide ((0 : Int) < ((hs.length % m : Nat) : Int)) = true := by simp only [decide_eq_true_eq]; omega
    go_enter Try.func16, Try.ntmps16
    go_wp2
    go_ret
    exact ⟨rfl, BR.out _⟩
end Go.Proofs.Ytdgibmgifgdpbaa
/-
  Which grounds are right, as the reference reckons it: the contract of Check.
-/
namespace Go.Proofs.Ytdgibmgifgdpbaa
open Go.RowKit Go.Shelf
open Lim

set_option maxRecDepth 20000 in
set_option maxHeartbeats 2000000 in
theorem rcheck_good {B : Nat} {wd : Int} {hv sv : Value} {hs : List (Int × Int)} {ss : List Int} {w : World} (hg : goodCount wd hs ss = true) (hB : B ≤ w.heap.size) (hh : RS B w hv hs.length (spans hs)) (hss : RS B w sv ss.length (ints ss)) :
    Calls Try.prog 16 #[.agg #[.int .i64 wd, hv, sv]] w fun e w' => e = .returned (.int .i64 (openErr wd hs ss)) ∧ Below w.heap.size w w' := by
  have hg' := hg
  simp only [goodCount, Bool.and_eq_true, decide_eq_true_eq] at hg'
  obtain ⟨⟨⟨⟨h1, h2⟩, h3⟩, h4⟩, h5⟩ := hg'
  have d1 : decide ((hs.length : Int) < 1) = false := by simp; omega
  have d2 : decide ((100 : Int) < hs.length) = false := by simp; omega
  have d3 : decide (wd < 1) = false := by simp; omega
  obtain ⟨m, rfl⟩ : ∃ m : Nat, wd = m := ⟨wd.toNat, by omega⟩
  simp only [Int.toNat_natCast] at h4
  have e6 : (hs.length : Int).tmod (m : Int) = 0 := ((Int.ofNat_tmod hs.length m).symm).trans (by rw [h4]; rfl)
  have hm0 : ¬ m = 0 := by omega
  have HSS := Lib.hid hss
  have HOK := Lib.hid (goodCount_ok hg)
  rw [h5] at hss
  obtain ⟨ha, hcap, rfl, hhc⟩ := hh
  obtain ⟨sa, scap, rfl, hsc⟩ := hss
  obtain ⟨hb, hoff, rfl, hhb, hhcell⟩ := hhc (spans_ne (by omega))
  obtain ⟨sb, soff, rfl, hsb, hscell⟩ := hsc (ints_ne (by omega))
  have HC := Lib.hid (And.intro hhcell hscell)
  have HG := Lib.hid hg
  have HL := Lib.hid h5
  have hne : ((hs.length : Int) != hs.length) = false := by simp
  clear hhcell hscell hhc hsc hg h5 h4
  go_enter Try.func16, Try.ntmps16
  go_wp2
  generalize hW : World.alloc _ _ = W0
  have M0 : ChMem w m (.slice (some ⟨hb, hoff, none⟩) hs.length hcap) (.slice (some ⟨sb, soff, none⟩) hs.length scap) (fun _ => 0) W0 := by
    rw [← hW]
    refine ⟨by simp [go_sem], by simp [go_sem], by simp [go_sem], fun i hi => ?_, ((Below.refl _ w).alloc (Nat.le_refl _) _).alloc (by simp) _⟩
    match i, hi with
    | 0, _ => exact ⟨by simp [go_sem], by simp [go_sem]⟩
    | 1, _ => exact ⟨by simp [go_sem], by simp [go_sem]⟩
    | 2, _ => exact ⟨by simp [go_sem], by simp [go_sem]⟩
    | n + 3, h => exact absurd h (by omega)
  clear hW
  go_loopw [5] (fun i W => ∃ (k : Nat) (f : Nat → Nat), k ≤ hs.length ∧ i = .int .i64 k ∧ ChMem w m (.slice (some ⟨hb, hoff, none⟩) hs.length hcap) (.slice (some ⟨sb, soff, none⟩) hs.length scap) f W ∧ Hid (Many ss k f ∧ ∀ j, j < k → badAt hs ss j = false)) (fun i _ => hs.length - (intOf i).toNat)
  case atStart => exact ⟨0, _, Nat.zero_le _, rfl, M0, Lib.hid ⟨Many.zero ss, fun j hj => absurd hj (by omega)⟩⟩
  case round =>
    clear M0
    obtain ⟨k, f, hk, rfl, L, hP⟩ := hrel
    have HLL := Lib.hid L
    by_cases hlt : k < hs.length
    · obtain ⟨z, hz⟩ : ∃ z, z = ss.getD k 0 := ⟨_, rfl⟩
      obtain ⟨lo, hlo⟩ : ∃ lo, lo = (hs.getD k (0, 0)).1 := ⟨_, rfl⟩
      obtain ⟨up, hup⟩ : ∃ up, up = (hs.getD k (0, 0)).2 := ⟨_, rfl⟩
      have q0 : wr.cell? ⟨sb, soff + k, none⟩ = some (.int .i64 z) := by rw [hz, List.getD_eq_getElem?_getD]; exact cell_below L.be (HC.out.2 k _ (ints_at' _ _ (by have := HL.out; omega))) (by show sb < w.heap.size; omega)
      have q1 : wr.cell? ⟨hb, hoff + k * 2, none⟩ = some (.int .i64 lo) := by rw [hlo, List.getD_eq_getElem?_getD, List.getElem?_eq_getElem hlt]; exact cell_below L.be (HC.out.1 _ _ (spans_lo _ k hlt)) (by show hb < w.heap.size; omega)
      have q2 : wr.cell? ⟨hb, hoff + k * 2 + 1, none⟩ = some (.int .i64 up) := by rw [hup, List.getD_eq_getElem?_getD, List.getElem?_eq_getElem hlt]; exact cell_below L.be (HC.out.1 _ _ (spans_hi _ k hlt)) (by show hb < w.heap.size; omega)
      have p1 := L.f1
      have p2 := L.f2
      have HBR := Lib.hid L.be
      have HBA : Hid (badAt hs ss k = (!inB z 0 2 || (!inB lo 0 up || decide (10000 < up)))) := Lib.hid (by unfold badAt; rw [← hz, ← hlo, ← hup])
      have HZ := Lib.hid hz
      have hE4 : badAt hs ss k = true → openErr m hs ss = 4 := fun h => by
        have h2 := bad_of HL.out hlt h
        unfold openErr
        rw [if_neg (by rw [HG.out]; decide), if_pos h2]
      have HE4 := Lib.hid hE4
      clear hz hlo hup L hE4
      have case : (z < 0 ∨ 2 < z ∨ lo < 0 ∨ 10000 < up ∨ up < lo) ∨ (0 ≤ z ∧ z ≤ 2 ∧ 0 ≤ lo ∧ lo ≤ up ∧ up ≤ 10000) := by omega
      rcases case with hbad | hgood
      · have HEB : Hid (openErr m hs ss = 4) := Lib.hid (HE4.out (by
          rw [HBA.out]
          rcases hbad with h | h | h | h | h
          · rw [inB_false (.inl h)]; rfl
          · rw [inB_false (.inr h)]; rfl
          · rw [inB_false (n := lo) (.inl h)]; simp
          · rw [show decide (10000 < up) = true from by simpa using h]; simp
          · rw [inB_false (n := lo) (.inr h)]; simp))
        by_cases g1 : z < 0
        · have c1 : decide (z < 0) = true := by simpa using g1
          clear hbad
          go_wp2_with fail
          go_quiet (fail)
          go_wp2
          go_ret
          exact ⟨by rw [HEB.out]; rfl, below_drewN HBR.out _⟩
        have c1 : decide (z < 0) = false := by simpa using g1
        by_cases g2 : 2 < z
        · have c2 : decide (2 < z) = true := by simpa using g2
          clear hbad
          go_wp2_with fail
          go_quiet (fail)
          go_wp2
          go_ret
          exact ⟨by rw [HEB.out]; rfl, below_drewN HBR.out _⟩
        have c2 : decide (2 < z) = false := by simpa using g2
        by_cases g3 : lo < 0
        · have c3 : decide (lo < 0) = true := by simpa using g3
          clear hbad
          go_wp2_with fail
          go_quiet (fail)
          go_wp2
          go_ret
          exact ⟨by rw [HEB.out]; rfl, below_drewN HBR.out _⟩
        have c3 : decide (lo < 0) = false := by simpa using g3
        by_cases g4 : 10000 < up
        · have c4 : decide (10000 < up) = true := by simpa using g4
          clear hbad
          go_wp2_with fail
          go_quiet (fail)
          go_wp2
          go_ret
          exact ⟨by rw [HEB.out]; rfl, below_drewN HBR.out _⟩
        have c4 : decide (10000 < up) = false := by simpa using g4
        have c5 : decide (up < lo) = true := by simp only [decide_eq_true_eq]; omega
        clear hbad g1 g2 g3 g4
        go_wp2_with fail
        go_quiet (fail)
        go_wp2
        go_ret
        exact ⟨by rw [HEB.out]; rfl, below_drewN HBR.out _⟩
      · obtain ⟨zn, rfl⟩ : ∃ n : Nat, z = n := ⟨z.toNat, by omega⟩
        have hz3 : zn < 3 := by omega
        have hz4 : (zn : Int) < 3 := by omega
        have c1 : decide ((zn : Int) < 0) = false := by simp only [decide_eq_false_iff_not]; omega
        have c2 : decide (2 < (zn : Int)) = false := by simp only [decide_eq_false_iff_not]; omega
        have c3 : decide (lo < 0) = false := by simp only [decide_eq_false_iff_not]; omega
        have c4 : decide (10000 < up) = false := by simp only [decide_eq_false_iff_not]; omega
        have c5 : decide (up < lo) = false := by simp only [decide_eq_false_iff_not]; omega
        have HNB : Hid (badAt hs ss k = false) := Lib.hid (by rw [HBA.out, inB_true hgood.1 hgood.2.1, inB_true (n := lo) hgood.2.2.1 hgood.2.2.2.1, c4]; rfl)
        clear hgood
        go_wp2_with fail
        go_quiet (fail)
        go_wp2_with fail
        rename_i nq
        have L2 := HLL.out.below (below_drewN (Below.refl _ wr) (nq + 1))
        obtain ⟨mm, hmm⟩ : ∃ mm, mm = f zn := ⟨_, rfl⟩
        have hC : (fun W => W.cell? ⟨w.heap.size, 2, none⟩ = some (.slice (some ⟨sb, soff, none⟩) hs.length scap) ∧ W.cell? ⟨sb, soff + k, none⟩ = some (.int .i64 (zn : Nat)) ∧ W.cell? ⟨w.heap.size + 1, zn, none⟩ = some (.int .i64 (mm : Nat))) (wr.drewN nq).drew := ⟨p2, q0, by rw [hmm]; exact (HLL.out.m zn hz3).1⟩
        have fr : wr.frozen? ⟨w.heap.size + 1, zn, none⟩ = false := (HLL.out.m zn hz3).2
        have q9 := (HLL.out.m zn hz3).1
        rw [← hmm] at q9
        have hmk : mm ≤ 100 := by rw [hmm]; have := (hP.out.1 zn hz3).1; omega
        have ew : IntKind.i64.wrap ((mm : Int) + 1) = (mm : Int) + 1 := IntWalk.i64_in _ (by omega)
        have HMM := Lib.hid hmm
        have HL2 := Lib.hid L2
        clear hmm L2 c1 c2 c3 c4 c5 q1 q2 p1
        refine Lim.regC' (fun W => W.cell? ⟨w.heap.size, 2, none⟩ = some (.slice (some ⟨sb, soff, none⟩) hs.length scap) ∧ W.cell? ⟨sb, soff + k, none⟩ = some (.int .i64 (zn : Nat)) ∧ W.cell? ⟨w.heap.size + 1, zn, none⟩ = some (.int .i64 (mm : Nat))) [14] #[false, false, false, false, false, false, false, false, false, false, false, false, false, false, false] (by kernel_rfl) rfl ?_
        refine Lim.stepR 0 (fun _ => trivial) rfl (by kernel_rfl) (fun _ _ _ _ h => h) hC rfl ?_; apply Exists.intro; refine ⟨?_, ?_⟩
        · rintro w ⟨r1, r2, r3⟩; go_simp; try with_reducible rfl
        simp only [Act.put, List.setIfInBounds_toArray, List.set_cons_succ, List.set_cons_zero]
        refine Lim.stepR 1 (fun _ => trivial) rfl (by kernel_rfl) (fun _ _ _ _ h => h) hC rfl ?_; apply Exists.intro; refine ⟨?_, ?_⟩
        · rintro w ⟨r1, r2, r3⟩; go_simp; try with_reducible rfl
        simp only [Act.put, List.setIfInBounds_toArray, List.set_cons_succ, List.set_cons_zero]
        refine Lim.stepR 2 (fun _ => trivial) rfl (by kernel_rfl) (fun _ _ _ _ h => h) hC rfl ?_; apply Exists.intro; refine ⟨?_, ?_⟩
        · rintro w ⟨r1, r2, r3⟩; go_simp; try with_reducible rfl
        simp only [Act.put, List.setIfInBounds_toArray, List.set_cons_succ, List.set_cons_zero]
        refine Lim.stepR 3 (fun _ => trivial) rfl (by kernel_rfl) (fun _ _ _ _ h => h) hC rfl ?_; apply Exists.intro; refine ⟨?_, ?_⟩
        · rintro w ⟨r1, r2, r3⟩; go_simp; try with_reducible rfl
        simp only [Act.put, List.setIfInBounds_toArray, List.set_cons_succ, List.set_cons_zero]
        refine Lim.stepR 4 (fun _ => trivial) rfl (by kernel_rfl) (fun _ _ _ _ h => h) hC rfl ?_; apply Exists.intro; refine ⟨?_, ?_⟩
        · rintro w ⟨r1, r2, r3⟩; go_simp; try with_reducible rfl
        simp only [Act.put, List.setIfInBounds_toArray, List.set_cons_succ, List.set_cons_zero]
        refine Lim.stepR 5 (fun _ => trivial) rfl (by kernel_rfl) (fun _ _ _ _ h => h) hC rfl ?_; apply Exists.intro; refine ⟨?_, ?_⟩
        · rintro w ⟨r1, r2, r3⟩; go_simp; try with_reducible rfl
        simp only [Act.put, List.setIfInBounds_toArray, List.set_cons_succ, List.set_cons_zero]
        refine Lim.stepR 6 (fun _ => trivial) rfl (by kernel_rfl) (fun _ _ _ _ h => h) hC rfl ?_; apply Exists.intro; refine ⟨?_, ?_⟩
        · rintro w ⟨r1, r2, r3⟩; go_simp; try with_reducible rfl
        simp only [Act.put, List.setIfInBounds_toArray, List.set_cons_succ, List.set_cons_zero]
        refine Lim.stepR 7 (fun _ => trivial) rfl (by kernel_rfl) (fun _ _ _ _ h => h) hC rfl ?_; apply Exists.intro; refine ⟨?_, ?_⟩
        · rintro w ⟨r1, r2, r3⟩; go_simp; try with_reducible rfl
        simp only [Act.put, List.setIfInBounds_toArray, List.set_cons_succ, List.set_cons_zero]
        refine Lim.stepR 8 (fun _ => trivial) rfl (by kernel_rfl) (fun _ _ _ _ h => h) hC rfl ?_; apply Exists.intro; refine ⟨?_, ?_⟩
        · rintro w ⟨r1, r2, r3⟩; go_simp; try with_reducible rfl
        simp only [Act.put, List.setIfInBounds_toArray, List.set_cons_succ, List.set_cons_zero]
        refine Lim.stepR 9 (fun _ => trivial) rfl (by kernel_rfl) (fun _ _ _ _ h => h) hC rfl ?_; apply Exists.intro; refine ⟨?_, ?_⟩
        · rintro w ⟨r1, r2, r3⟩; go_simp; try with_reducible rfl
        simp only [Act.put, List.setIfInBounds_toArray, List.set_cons_succ, List.set_cons_zero]
        refine Lim.stepR 10 (fun _ => trivial) rfl (by kernel_rfl) (fun _ _ _ _ h => h) hC rfl ?_; apply Exists.intro; refine ⟨?_, ?_⟩
        · rintro w ⟨r1, r2, r3⟩; go_simp; try with_reducible rfl
        simp only [Act.put, List.setIfInBounds_toArray, List.set_cons_succ, List.set_cons_zero]
        refine Lim.stepR 11 (fun _ => trivial) rfl (by kernel_rfl) (fun _ _ _ _ h => h) hC rfl ?_; apply Exists.intro; refine ⟨?_, ?_⟩
        · rintro w ⟨r1, r2, r3⟩; go_simp; try with_reducible rfl
        simp only [Act.put, List.setIfInBounds_toArray, List.set_cons_succ, List.set_cons_zero]
        refine Lim.stepR 12 (fun _ => trivial) rfl (by kernel_rfl) (fun _ _ _ _ h => h) hC rfl ?_; apply Exists.intro; refine ⟨?_, ?_⟩
        · rintro w ⟨r1, r2, r3⟩; go_simp; try with_reducible rfl
        simp only [Act.put, List.setIfInBounds_toArray, List.set_cons_succ, List.set_cons_zero]
        refine Lim.stepR 13 (fun _ => trivial) rfl (by kernel_rfl) (fun _ _ _ _ h => h) hC rfl ?_; apply Exists.intro; refine ⟨?_, ?_⟩
        · rintro w ⟨r1, r2, r3⟩; go_simp; try with_reducible rfl
        simp only [Act.put, List.setIfInBounds_toArray, List.set_cons_succ, List.set_cons_zero]
        refine Lim.stepX 14 (fun _ => trivial) rfl (by kernel_rfl) rfl rfl (fun K hK => ?_)
        go_simp
        refine hK _ _ ?_
        refine Lim.segC (fun _ => True) [] (Lim.stepD (by kernel_rfl) ?_)
        have HS := HL2.out.store hz3 (mm + 1)
        have HM2 : Hid (Many ss (k + 1) (fun i => if i = zn then mm + 1 else f i)) := Lib.hid (by have h := hP.out.1.more HZ.out; rw [← HMM.out] at h; exact h)
        clear hC fr q9 q0 p2 ew
        go_wp2
        go_roundw
        case rel => exact ⟨k + 1, _, by omega, by go_num, by simpa using HS, Lib.hid ⟨HM2.out, fun j hj => by
          by_cases e : j = k
          · subst e; exact HNB.out
          · exact hP.out.2 j (by omega)⟩⟩
        case measure => simp [intOf]; omega
    · obtain rfl : k = hs.length := by omega
      have HNB : Hid ((badSea ss || badSpan hs) = false) := Lib.hid (bad_no HL.out hP.out.2)
      have HMY : Hid (Many ss ss.length f) := Lib.hid (by rw [HL.out]; exact hP.out.1)
      obtain ⟨n1, hn1⟩ : ∃ n1, n1 = f 1 := ⟨_, rfl⟩
      obtain ⟨n2, hn2⟩ : ∃ n2, n2 = f 2 := ⟨_, rfl⟩
      have q1 := (L.m 1 (by omega)).1
      have q2 := (L.m 2 (by omega)).1
      rw [← hn1] at q1
      rw [← hn2] at q2
      have HN1 : Hid (n1 = 0 ↔ ¬ (1 : Int) ∈ ss) := Lib.hid (by rw [hn1]; exact HMY.out.none (i := 1) (by omega))
      have HN2 : Hid (n2 = 0 ↔ ¬ (2 : Int) ∈ ss) := Lib.hid (by rw [hn2]; exact HMY.out.none (i := 2) (by omega))
      have HE : Hid (openErr m hs ss = if ¬ (1 : Int) ∈ ss ∨ ¬ (2 : Int) ∈ ss then 7 else if clash ⟨m, hs, ss⟩ = true then 8 else 0) := Lib.hid (by
        unfold openErr
        rw [if_neg (by rw [HG.out]; decide), if_neg (by rw [HNB.out]; decide)]; rfl)
      clear L hn1 hn2 hP
      by_cases g1 : n1 = 0
      · subst g1
        have HEB : Hid (openErr m hs ss = 7) := Lib.hid (by rw [HE.out, if_pos (.inl (HN1.out.1 rfl))])
        go_wp2
        go_ret
        exact ⟨by rw [HEB.out]; rfl, HLL.out.be⟩
      have c1 : ((n1 : Int) == 0) = false := by rw [beq_eq_false_iff_ne]; omega
      by_cases g2 : n2 = 0
      · subst g2
        have HEB : Hid (openErr m hs ss = 7) := Lib.hid (by rw [HE.out, if_pos (.inr (HN2.out.1 rfl))])
        go_wp2
        go_ret
        exact ⟨by rw [HEB.out]; rfl, HLL.out.be⟩
      have c2 : ((n2 : Int) == 0) = false := by rw [beq_eq_false_iff_ne]; omega
      have HE2 : Hid (openErr m hs ss = if clash ⟨m, hs, ss⟩ = true then 8 else 0) := Lib.hid (by
        rw [HE.out, if_neg]
        rintro (h | h)
        · exact g1 (HN1.out.2 h)
        · exact g2 (HN2.out.2 h))
      clear HE
      go_wp2
      clear q1 q2 c1 c2 g1 g2
      go_loopw [6] (fun i W => ∃ k : Nat, k ≤ hs.length ∧ i = .int .i64 k ∧ ChMem w m (.slice (some ⟨hb, hoff, none⟩) hs.length hcap) (.slice (some ⟨sb, soff, none⟩) hs.length scap) f W ∧ Hid (∀ j, j < k → (decide (ss.getD j 0 = 1) && atB ⟨m, hs, ss⟩ j 2) = false)) (fun i _ => hs.length - (intOf i).toNat)
      case atStart => exact ⟨0, Nat.zero_le _, rfl, HLL.out, Lib.hid (fun j hj => absurd hj (by omega))⟩
      case round =>
        clear HLL
        obtain ⟨k, hk, rfl, L, hP⟩ := hrel
        have HLL := Lib.hid L
        by_cases hlt : k < hs.length
        · obtain ⟨z, hz⟩ : ∃ z, z = ss.getD k 0 := ⟨_, rfl⟩
          have q0 : wr.cell? ⟨sb, soff + k, none⟩ = some (.int .i64 z) := by rw [hz, List.getD_eq_getElem?_getD]; exact cell_below L.be (HC.out.2 k _ (ints_at' _ _ (by have := HL.out; omega))) (by show sb < w.heap.size; omega)
          have p0 := L.f0
          have p1 := L.f1
          have p2 := L.f2
          have HZ := Lib.hid hz
          clear hz L
          by_cases hz1 : z = 1
          · subst hz1
            have CC := Lib.hid (coast_any (B := B) (g := ⟨m, hs, ss⟩) (hv := .slice (some ⟨hb, hoff, none⟩) hs.length hcap) (sv := .slice (some ⟨sb, soff, none⟩) hs.length scap) (c := k) (s := 2) (w := wr) HOK.out (by show k < ss.length; have := HL.out; omega) (by have := HLL.out.be.size; omega) (HSS.out.below (HLL.out.be.mono hB)))
            go_wp2_with fail
            refine CC.out.mono ?_
            clear CC
            rintro e w2 ⟨rfl, hb2⟩
            have L2 := HLL.out.below hb2
            clear hb2 q0 p0 p1 p2
            cases hat : atB ⟨m, hs, ss⟩ k 2 with
            | true =>
              have HEB : Hid (openErr m hs ss = 8) := Lib.hid (by
                rw [HE2.out, if_pos]
                exact List.any_eq_true.2 ⟨k, List.mem_range.2 (by show k < ss.length; have := HL.out; omega), by show (decide (ss.getD k 0 = 1) && _) = true; rw [← HZ.out, hat]; rfl⟩)
              clear hat
              go_wp2
              go_ret
              exact ⟨by rw [HEB.out]; rfl, L2.be⟩
            | false =>
              have HA := Lib.hid hat
              clear hat
              go_wp2
              go_roundw
              case rel => exact ⟨k + 1, by omega, by go_num, L2, Lib.hid (fun j hj => by
                by_cases e : j = k
                · subst e; rw [HA.out, Bool.and_false]
                · exact hP.out j (by omega))⟩
              case measure => simp [intOf]; omega
          · have c1 : (z == 1) = false := by rw [beq_eq_false_iff_ne]; exact hz1
            have HZ1 := Lib.hid hz1
            clear hz1
            go_wp2
            go_roundw
            case rel => exact ⟨k + 1, by omega, by go_num, HLL.out, Lib.hid (fun j hj => by
              by_cases e : j = k
              · subst e; rw [← HZ.out, show decide (z = 1) = false from decide_eq_false HZ1.out]; rfl
              · exact hP.out j (by omega))⟩
            case measure => simp [intOf]; omega
        · obtain rfl : k = hs.length := by omega
          have HEB : Hid (openErr m hs ss = 0) := Lib.hid (by
            rw [HE2.out, if_neg]
            intro h
            obtain ⟨j, hj, h2⟩ := List.any_eq_true.1 h
            have h3 := hP.out j (by have h4 := List.mem_range.1 hj; have h5 := HL.out; have h6 : j < ss.length := h4; omega)
            have h2 : (decide (ss.getD j 0 = 1) && atB ⟨m, hs, ss⟩ j 2) = true := h2
            rw [h3] at h2; cases h2)
          have hbe := Lib.hid L.be
          clear L
          go_wp2
          go_ret
          exact ⟨by rw [HEB.out]; rfl, hbe.out⟩

theorem rcheck_any {B : Nat} {wd : Int} {hv sv : Value} {hs : List (Int × Int)} {ss : List Int} {w : World} (hB : B ≤ w.heap.size) (hh : RS B w hv hs.length (spans hs)) (hss : RS B w sv ss.length (ints ss)) :
    Calls Try.prog 16 #[.agg #[.int .i64 wd, hv, sv]] w fun e w' => e = .returned (.int .i64 (openErr wd hs ss)) ∧ Below w.heap.size w w' := by
  cases hg : goodCount wd hs ss with
  | true => exact rcheck_good hg hB hh hss
  | false => exact rcheck_count hg hh hss
end Go.Proofs.Ytdgibmgifgdpbaa
/-
  Regions that draw their order, where several effects may come up in any order: one obligation for each effect.
-/
namespace Go.Proofs.Ytdgibmgifgdpbaa.Lim
open Go
section
variable {F : Fence} {n : Nat} {P : Program} {Q : Exit → Act → World → Prop} {C : World → Prop} {l : List Oper}

/-- operation i waits for j -/
def waitsOn (ops : Array Oper) (i j : Nat) : Bool := ((ops[i]?).map fun o => o.after.any fun e => Region.binds .any e && e.on == j).getD false
def okPar (ops : Array Oper) (T : List Nat) (base : Array Bool) : Bool :=
  noDefer ops && base.size == ops.size && ((List.range ops.size).all fun j => base.getD j true == !T.contains j) && (T.all fun i => decide (i < ops.size)) &&
  ((List.range ops.size).all fun j => ((ops[j]?).map fun o => o.guard.isNone || !T.contains j).getD false) &&
  ((List.range ops.size).all fun j => ((ops[j]?).map fun o => o.after.all fun e => !Region.binds .any e || decide (e.on < j)).getD false)

theorem cnt_lt {done : Nat → Bool} {i : Nat} (hd : done i = false) : ∀ T : List Nat, i ∈ T → (T.filter fun j => !(if j = i then true else done j)).length < (T.filter fun j => !done j).length
  | [], h => absurd h (by simp)
  | x :: T, h => by
    have mono : (T.filter fun j => !(if j = i then true else done j)).length ≤ (T.filter fun j => !done j).length := by
      clear h
      induction T with
      | nil => simp
      | cons y T ih =>
        by_cases e : y = i
        · subst e; simp only [List.filter_cons, hd]; simp; simp at ih; omega
        · cases hy : done y <;> simp only [List.filter_cons, if_neg e, hy] <;> simp <;> simp at ih <;> omega
    by_cases e : x = i
    · subst e
      simp only [List.filter_cons, hd]; simp; simp at mono; omega
    · have ih := cnt_lt hd T (by rcases List.mem_cons.1 h with h | h; exact absurd h.symm e; exact h)
      cases hx : done x <;> simp only [List.filter_cons, if_neg e, hx] <;> simp <;> simp at ih <;> omega

/-- EFFECTS IN ANY ORDER: S says what holds while those of T that 'done' names are done. -/
theorem parC {E : List Nat} (T : List Nat) (S : (Nat → Bool) → Act → World → Prop) {fuel : Nat} {listed : Array Bool} {a : Act} {w : World} (hF : ∀ f, F.fn f) (hk : okPar l.toArray T listed = true) (hfuel : T.length = fuel) (hE : E = [])
    (hC : ∀ done a w, S done a w → C w)
    (hstep : ∀ i o, i ∈ T → nthO l i = some o → ∀ done a w, done i = false → (∀ j, waitsOn l.toArray i j = true → j ∈ T → done j = true) → S done a w →
      ∀ K : Act → World → Prop, (∀ a' w', S (fun j => if j = i then true else done j) a' w' → K a' w') → o.uponIn F n P a K Q ((execOp a.eval o).run P w))
    (hend : ∀ done a w, (∀ i ∈ T, done i = true) → S done a w → Q .normal a w)
    (h : S (fun _ => false) a w) : anyC F n P l.toArray Q C E fuel listed a w := by
  subst hE
  simp only [okPar, Bool.and_eq_true, beq_iff_eq] at hk
  obtain ⟨⟨⟨⟨⟨hk1, hk2⟩, hk3⟩, hk4⟩, hk5⟩, hk6⟩ := hk
  have key : ∀ (fuel : Nat) (done : Nat → Bool) (L : Array Bool) (a : Act) (w : World), (T.filter fun j => !done j).length ≤ fuel →
      (∀ j, j < l.toArray.size → L.getD j true = (!T.contains j || done j)) → L.size = l.toArray.size → S done a w → anyC F n P l.toArray Q C [] fuel L a w := by
    intro fuel
    have hrd : ∀ (done : Nat → Bool) (L : Array Bool) (a : Act) (w : World), (∀ j, j < l.toArray.size → L.getD j true = (!T.contains j || done j)) → L.size = l.toArray.size →
        Region.ready .any l.toArray L = [] → ∀ i, i ∈ T → done i = true := by
      intro done L a w hL hs hr i
      induction i using Nat.strongRecOn with
      | _ i ih =>
        intro hi
        by_cases hd : done i = true
        · exact hd
        · exfalso
          have hlt : i < l.toArray.size := by simpa using List.all_eq_true.1 hk4 i hi
          have hmem : i ∈ Region.ready .any l.toArray L := by
            refine mem_ready.2 ⟨?_, ?_⟩
            · rw [hL i hlt]
              simp [hi, hd]
            · refine ⟨l.toArray[i], Array.getElem?_eq_getElem hlt, fun e he hb => ?_⟩
              have h6 := List.all_eq_true.1 hk6 i (List.mem_range.2 hlt)
              rw [Array.getElem?_eq_getElem hlt] at h6
              simp only [Option.map_some, Option.getD_some] at h6
              have h7 := Array.all_eq_true_iff_forall_mem.1 h6 e he
              rw [hb] at h7
              have h8 : e.on < i := by simpa using h7
              have h9 := hL e.on (by omega)
              have h10 : L.getD e.on true = true := by
                rw [h9]
                by_cases hT : e.on ∈ T
                · rw [ih e.on h8 hT]; simp
                · simp [hT]
              have : e.on < L.size := by omega
              simp [this] at h10 ⊢
              exact h10
          rw [hr] at hmem
          cases hmem
    induction fuel with
    | zero =>
      intro done L a w hc hL hs hS
      have hall : ∀ i, i ∈ T → done i = true := fun i hi => by
        have : (T.filter fun j => !done j) = [] := List.length_eq_zero_iff.1 (by omega)
        by_cases hd : done i = true
        · exact hd
        · have : i ∈ T.filter fun j => !done j := List.mem_filter.2 ⟨hi, by simpa using hd⟩
          simp_all
      refine ⟨?_, hend done a w hall hS⟩
      apply List.eq_nil_iff_forall_not_mem.2
      intro i hi
      obtain ⟨h1, o, ho, _⟩ := mem_ready.1 hi
      have hlt : i < l.toArray.size := (Array.getElem?_eq_some_iff.1 ho).1
      rw [hL i hlt] at h1
      simp at h1
      rw [hall i h1.1] at h1
      simp at h1
    | succ fuel ih =>
      intro done L a w hc hL hs hS
      refine ⟨fun hr => hend done a w (hrd done L a w hL hs hr) hS, fun i hi => ?_⟩
      obtain ⟨h1, o, ho, hall⟩ := mem_ready.1 hi
      have hlt : i < l.toArray.size := (Array.getElem?_eq_some_iff.1 ho).1
      rw [hL i hlt] at h1
      have h1' : i ∈ T ∧ done i = false := by simpa using h1
      obtain ⟨hiT, hd⟩ := h1'
      have hn : nthO l i = some o := (nthO_eq l i).symm.trans ho
      have hw : Region.wanted o (yielded l.toArray a.tmps) = true := by
        have h5 := List.all_eq_true.1 hk5 i (List.mem_range.2 hlt)
        rw [ho] at h5
        have h6 : o.guard.isNone = true := by simpa [hiT] using h5
        unfold Region.wanted
        cases hg : o.guard with
        | none => rfl
        | some x => rw [hg] at h6; cases h6
      have hdep : ∀ j, waitsOn l.toArray i j = true → j ∈ T → done j = true := by
        intro j hj hjT
        unfold waitsOn at hj
        rw [ho] at hj
        simp only [Option.map_some, Option.getD_some] at hj
        obtain ⟨e, he, hb⟩ := Array.any_eq_true'.1 hj
        simp only [Bool.and_eq_true, beq_iff_eq] at hb
        obtain ⟨hb, rfl⟩ := hb
        have h2 := hall e he hb
        have hjl : e.on < l.toArray.size := by simpa using List.all_eq_true.1 hk4 e.on hjT
        have h3 := hL e.on hjl
        have h4 : e.on < L.size := by omega
        simp [h4] at h2 h3
        rw [h2] at h3
        simpa [hjT] using h3.symm
      have hop : Go.wpOpIn F n P l.toArray Q i (S (fun j => if j = i then true else done j)) a w := by
        unfold Go.wpOpIn
        simp only [ho, hw, if_true]
        refine ⟨fun f _ => hF f, ?_⟩
        rw [Oper.semAt_eq _ _ _ (noDefer_spec hk1 ho)]
        exact hstep i o hiT hn done a w hd hdep hS _ (fun _ _ h => h)
      refine wpOpIn_mono (fun a' w' hS' => .inr ⟨by simp, hC _ _ _ hS', ?_⟩) hop
      refine ih (fun j => if j = i then true else done j) _ a' w' (by have := cnt_lt hd T hiT; omega) ?_ (by simpa using hs) hS'
      intro j hj
      by_cases e : j = i
      · subst e
        have : j < L.size := by omega
        simp [this]
      · rw [getD_set_ne true (fun e' => e e'.symm), hL j hj]
        simp [e]
  refine key fuel (fun _ => false) listed a w (Nat.le_trans (List.length_filter_le _ _) (by omega)) (fun j hj => ?_) hk2 h
  have := List.all_eq_true.1 hk3 j (List.mem_range.2 hj)
  simpa using this
/-- append within a region -/
theorem append_upon {o : Oper} {a : Act} {K : Act → World → Prop} {w w' : World} {t : TypeId} {s x : Operand} {sv xv v : Value} (hop : o.op = Op.call { callee := Callee.builtin Builtin.append, args := #[s, x], argTypes := #[t, t] })
    (hs : a.eval s = sv) (hx : a.eval x = xv) (h : (Builtin.append_ #[t, t] o.type #[sv, xv]).run P w = .ok v w') (hK : K (a.put o.dst v) w') : o.uponIn F n P a K Q ((execOp a.eval o).run P w) := by
  simp [execOp, hop, resolve, invoke, builtin, hs, hx, h, Result.andThen, Oper.uponIn]
  exact hK
end
end Go.Proofs.Ytdgibmgifgdpbaa.Lim
/-
  Drains and Passes as the reference answers them: their contracts.
-/
namespace Go.Proofs.Ytdgibmgifgdpbaa
open Go.RowKit Go.Shelf
open Lim

set_option maxRecDepth 20000 in
set_option maxHeartbeats 2000000 in
theorem rdrains_any {B : Nat} {wd : Int} {hv sv tv : Value} {hs : List (Int × Int)} {ss T : List Int} {w : World} (hB : B ≤ w.heap.size) (hh : RS B w hv hs.length (spans hs)) (hss : RS B w sv ss.length (ints ss)) (ht : RS B w tv T.length (ints T)) :
    Calls Try.prog 41 #[.agg #[.int .i64 wd, hv, sv], tv] w fun e w' => ∃ v er l, e = .returned (.tuple #[v, .int .i64 er]) ∧ Below w.heap.size w w' ∧ DrainAns wd hs ss T er l ∧ w'.ownsRow w.heap.size 3 1 v l.length (ints l) := by
  have B1 : Below w.heap.size w (w.alloc (.cells #[.int .i64 wd, hv, sv] 28)) := (Below.refl _ w).alloc (Nat.le_refl _) _
  have CO := Lib.hid (rcheck_any (B := B) (wd := wd) (w := w.alloc (.cells #[.int .i64 wd, hv, sv] 28)) (by have := B1.size; omega) (hh.below (B1.mono hB)) (hss.below (B1.mono hB)))
  have HT := Lib.hid ht
  have HHS := Lib.hid (And.intro hh hss)
  obtain ⟨ha, hcap, rfl, hhc⟩ := hh
  obtain ⟨sa, scap, rfl, hsc⟩ := hss
  obtain ⟨ta, tcap, rfl, htc⟩ := ht
  have HC := Lib.hid (And.intro hhc (And.intro hsc htc))
  clear hhc hsc htc
  go_enter Try.func41, Try.ntmps41
  go_wp2_with fail
  have z0 : (w.alloc (.cells #[.int .i64 wd, .slice ha hs.length hcap, .slice sa ss.length scap] 28)).cell? ⟨w.heap.size, 0, none⟩ = some (.int .i64 wd) := by simp [go_sem]
  have z1 : (w.alloc (.cells #[.int .i64 wd, .slice ha hs.length hcap, .slice sa ss.length scap] 28)).cell? ⟨w.heap.size, 1, none⟩ = some (.slice ha hs.length hcap) := by simp [go_sem]
  have z2 : (w.alloc (.cells #[.int .i64 wd, .slice ha hs.length hcap, .slice sa ss.length scap] 28)).cell? ⟨w.heap.size, 2, none⟩ = some (.slice sa ss.length scap) := by simp [go_sem]
  refine CO.out.mono ?_
  clear CO
  rintro e w1 ⟨rfl, hb⟩
  have r0 := cell_on hb z0
  have r1 := cell_on hb z1
  have r2 := cell_on hb z2
  have BR : Below w.heap.size w w1 := B1.trans (hb.mono B1.size)
  clear z0 z1 z2 hb B1
  by_cases he : openErr wd hs ss = 0
  · have HE := Lib.hid he
    have HG := Lib.hid (openErr_ok he)
    have hwd : ((wd.toNat : Nat) : Int) = wd := by
      have h1 := (openErr_zero he).1
      simp only [goodCount, Bool.and_eq_true, decide_eq_true_eq] at h1
      omega
    have HWD := Lib.hid hwd
    have hl : hs.length ≤ 100 := by have := HG.out.n1; have := HG.out.hn; simp at *; omega
    have HLS : Hid (ss.length = hs.length) := Lib.hid HG.out.hn.symm
    rw [he]
    clear he hwd
    by_cases hlen : T.length = hs.length
    · have hne2 : ((T.length : Int) != hs.length) = false := by rw [bne, show ((T.length : Int) == hs.length) = true from by rw [beq_iff_eq]; omega]; rfl
      have HL := Lib.hid hlen
      clear hlen
      go_wp2_with fail
      go_loopw [7] (fun i wr => ∃ k : Nat, k ≤ T.length ∧ i = .int .i64 k ∧ Hid (∀ j, j < k → inB (T.getD j 0) (hs.getD j (0, 0)).1 (hs.getD j (0, 0)).2 = true) ∧ Below w1.heap.size w1 wr) (fun i _ => T.length - (intOf i).toNat)
      case atStart => exact ⟨0, Nat.zero_le _, rfl, Lib.hid (fun j hj => absurd hj (by omega)), Below.refl _ _⟩
      case round =>
        obtain ⟨k, hk, rfl, hP, hbr⟩ := hrel
        have BRr := BR.trans (hbr.mono BR.size)
        have HBR := Lib.hid (And.intro hbr BRr)
        have p0 := cell_on hbr r0
        have p1 := cell_on hbr r1
        have p2 := cell_on hbr r2
        by_cases hlt : k < T.length
        · obtain ⟨hb, hoff, rfl, hhb, hhcell⟩ := HC.out.1 (spans_ne (by have := HL.out; omega))
          obtain ⟨tb, toff, rfl, htb, htcell⟩ := HC.out.2.2 (ints_ne (by omega))
          obtain ⟨x, hx⟩ : ∃ x, x = T.getD k 0 := ⟨_, rfl⟩
          obtain ⟨lo, hlo⟩ : ∃ lo, lo = (hs.getD k (0, 0)).1 := ⟨_, rfl⟩
          obtain ⟨up, hup⟩ : ∃ up, up = (hs.getD k (0, 0)).2 := ⟨_, rfl⟩
          have hkh : k < hs.length := by have := HL.out; omega
          have q0 : wr.cell? ⟨tb, toff + k, none⟩ = some (.int .i64 x) := by rw [hx, List.getD_eq_getElem?_getD]; exact cell_below BRr (htcell k _ (ints_at' _ _ hlt)) (by show tb < w.heap.size; omega)
          have q1 : wr.cell? ⟨hb, hoff + k * 2, none⟩ = some (.int .i64 lo) := by rw [hlo, List.getD_eq_getElem?_getD, List.getElem?_eq_getElem hkh]; exact cell_below BRr (hhcell _ _ (spans_lo _ k hkh)) (by show hb < w.heap.size; omega)
          have q2 : wr.cell? ⟨hb, hoff + k * 2 + 1, none⟩ = some (.int .i64 up) := by rw [hup, List.getD_eq_getElem?_getD, List.getElem?_eq_getElem hkh]; exact cell_below BRr (hhcell _ _ (spans_hi _ k hkh)) (by show hb < w.heap.size; omega)
          have HX := Lib.hid (And.intro hx (And.intro hlo hup))
          clear hx hlo hup hhcell htcell hbr BRr
          by_cases g1 : x < lo
          · have c1 : decide (x < lo) = true := by simpa using g1
            have HF : Hid (inSpans hs T = false) := Lib.hid (by
              rw [Bool.eq_false_iff]; intro h
              have h2 := List.all_eq_true.1 h k (List.mem_range.2 hkh)
              rw [← HX.out.1, ← HX.out.2.1, inB_false (.inl g1)] at h2; cases h2)
            go_wp2_with fail
            go_quiet (fail)
            go_wp2
            go_ret2
            exact ⟨_, _, [], rfl, below_drewN HBR.out.2 _, .inr (.inr (.inl ⟨HE.out, HL.out, HF.out, rfl, rfl⟩)), World.ownsRow_nil _ _ _ _⟩
          have c1 : decide (x < lo) = false := by simpa using g1
          by_cases g2 : up < x
          · have c2 : decide (up < x) = true := by simpa using g2
            have HF : Hid (inSpans hs T = false) := Lib.hid (by
              rw [Bool.eq_false_iff]; intro h
              have h2 := List.all_eq_true.1 h k (List.mem_range.2 hkh)
              rw [← HX.out.1, ← HX.out.2.2, inB_false (.inr g2)] at h2; cases h2)
            go_wp2_with fail
            go_quiet (fail)
            go_wp2
            go_ret2
            exact ⟨_, _, [], rfl, below_drewN HBR.out.2 _, .inr (.inr (.inl ⟨HE.out, HL.out, HF.out, rfl, rfl⟩)), World.ownsRow_nil _ _ _ _⟩
          have c2 : decide (up < x) = false := by simpa using g2
          have HIN : Hid (inB (T.getD k 0) (hs.getD k (0, 0)).1 (hs.getD k (0, 0)).2 = true) := Lib.hid (by rw [← HX.out.1, ← HX.out.2.1, ← HX.out.2.2]; exact inB_true (by omega) (by omega))
          clear g1 g2
          go_wp2_with fail
          go_quiet (fail)
          go_wp2
          go_roundw
          case rel => exact ⟨k + 1, by omega, by go_num, Lib.hid (fun j hj => by
            by_cases e : j = k
            · subst e; exact HIN.out
            · exact hP.out j (by omega)), below_drewN HBR.out.1 _⟩
          case measure => simp [intOf]; omega
        · obtain rfl : k = T.length := by omega
          have HIN : Hid (inSpans hs T = true) := Lib.hid (List.all_eq_true.2 (fun c hc => hP.out c (by have := List.mem_range.1 hc; have := HL.out; omega)))
          have hC : (fun W => W.cell? ⟨w.heap.size, 0, none⟩ = some (.int .i64 wd) ∧ W.cell? ⟨w.heap.size, 1, none⟩ = some (.slice ha hs.length hcap) ∧ W.cell? ⟨w.heap.size, 2, none⟩ = some (.slice sa ss.length scap)) wr.drew := ⟨p0, p1, p2⟩
          have HBD : Hid (Below w.heap.size w wr.drew) := Lib.hid HBR.out.2.drew
          have CP : Hid (∀ (s : Int) (W : World), Below wr.drew.heap.size wr.drew W → Calls Try.prog 60 #[.agg #[.int .i64 wd, .slice ha hs.length hcap, .slice sa ss.length scap], .slice ta T.length tcap, .int .i64 s] W fun e w' => ∃ v p, e = .returned v ∧ w'.ownsRow W.heap.size 3 1 v ss.length (ints ((List.range ss.length).map p)) ∧ IsPass ⟨wd.toNat, hs, ss⟩ (fun c => T.getD c 0) s p ∧ Below W.heap.size W w') := Lib.hid (fun s W hb => by
            have hbW := HBD.out.trans (hb.mono HBD.out.size)
            have h := Pass_any (B := B) (g := ⟨wd.toNat, hs, ss⟩) (hv := .slice ha hs.length hcap) (s := s) (w := W) HG.out (by show T.length = ss.length; have := HL.out; have := HLS.out; omega) (by have := hbW.size; omega) (HHS.out.2.below (hbW.mono hB)) (HT.out.below (hbW.mono hB))
            have e : (((⟨wd.toNat, hs, ss⟩ : Gd).wd : Nat) : Int) = wd := HWD.out
            rw [e] at h
            exact h)
          clear hbr BRr p0 p1 p2 r0 r1 r2
          go_wp2_with fail
          refine Lim.regC' (fun W => W.cell? ⟨w.heap.size, 0, none⟩ = some (.int .i64 wd) ∧ W.cell? ⟨w.heap.size, 1, none⟩ = some (.slice ha hs.length hcap) ∧ W.cell? ⟨w.heap.size, 2, none⟩ = some (.slice sa ss.length scap)) [] #[false, false, false, false, false, false, false, false] (by kernel_rfl) rfl ?_
          refine Lim.stepR 0 (fun _ => trivial) rfl (by kernel_rfl) (fun _ _ _ _ h => h) hC rfl ?_; apply Exists.intro; refine ⟨?_, ?_⟩
          · rintro w ⟨r1, r2, r3⟩; go_simp; try with_reducible rfl
          simp only [Act.put, List.setIfInBounds_toArray, List.set_cons_succ, List.set_cons_zero]
          refine Lim.stepR 1 (fun _ => trivial) rfl (by kernel_rfl) (fun _ _ _ _ h => h) hC rfl ?_; apply Exists.intro; refine ⟨?_, ?_⟩
          · rintro w ⟨r1, r2, r3⟩; go_simp; try with_reducible rfl
          simp only [Act.put, List.setIfInBounds_toArray, List.set_cons_succ, List.set_cons_zero]
          refine Lim.stepR 3 (fun _ => trivial) rfl (by kernel_rfl) (fun _ _ _ _ h => h) hC rfl ?_; apply Exists.intro; refine ⟨?_, ?_⟩
          · rintro w ⟨r1, r2, r3⟩; go_simp; try with_reducible rfl
          simp only [Act.put, List.setIfInBounds_toArray, List.set_cons_succ, List.set_cons_zero]
          refine Lim.stepR 4 (fun _ => trivial) rfl (by kernel_rfl) (fun _ _ _ _ h => h) hC rfl ?_; apply Exists.intro; refine ⟨?_, ?_⟩
          · rintro w ⟨r1, r2, r3⟩; go_simp; try with_reducible rfl
          simp only [Act.put, List.setIfInBounds_toArray, List.set_cons_succ, List.set_cons_zero]
          refine Lim.stepE 2 (fun _ => trivial) rfl (by kernel_rfl) rfl (fun K hK => ?_)
          go_simp
          refine ⟨rfl, (callsIn_wide.2 (CP.out 1 _ (Below.refl _ _))).mono ?_⟩
          rintro e w3 ⟨va, a, rfl, hoa, hpa, hb3⟩
          have hC3 : (fun W => W.cell? ⟨w.heap.size, 0, none⟩ = some (.int .i64 wd) ∧ W.cell? ⟨w.heap.size, 1, none⟩ = some (.slice ha hs.length hcap) ∧ W.cell? ⟨w.heap.size, 2, none⟩ = some (.slice sa ss.length scap)) w3 := ⟨cell_on hb3 hC.1, cell_on hb3 hC.2.1, cell_on hb3 hC.2.2⟩
          have HPA := Lib.hid hpa
          have HOA := Lib.hid (RS.of_owns hoa)
          have HB3 := Lib.hid hb3
          clear hpa hoa hb3
          refine hK _ _ hC3 ?_
          simp only [Act.put, List.setIfInBounds_toArray, List.set_cons_succ, List.set_cons_zero]
          refine Lim.stepE 5 (fun _ => trivial) rfl (by kernel_rfl) rfl (fun K hK => ?_)
          go_simp
          refine ⟨rfl, (callsIn_wide.2 (CP.out 2 _ HB3.out)).mono ?_⟩
          rintro e w4 ⟨vb, b, rfl, hob, hpb, hb4⟩
          have hC4 : (fun W => W.cell? ⟨w.heap.size, 0, none⟩ = some (.int .i64 wd) ∧ W.cell? ⟨w.heap.size, 1, none⟩ = some (.slice ha hs.length hcap) ∧ W.cell? ⟨w.heap.size, 2, none⟩ = some (.slice sa ss.length scap)) w4 := ⟨cell_on hb4 hC3.1, cell_on hb4 hC3.2.1, cell_on hb4 hC3.2.2⟩
          have HPB := Lib.hid hpb
          have HOB := Lib.hid (RS.of_owns hob)
          have HOA4 := Lib.hid ((HOA.out.below hb4).mono hb4.size)
          have HB4 := Lib.hid (HB3.out.trans (hb4.mono HB3.out.size))
          have hs4 := hb4.size
          clear hpb hob hb4 HOA
          refine hK _ _ hC4 ?_
          simp only [Act.put, List.setIfInBounds_toArray, List.set_cons_succ, List.set_cons_zero]
          refine Lim.stepR 6 (fun _ => trivial) rfl (by kernel_rfl) (fun _ _ _ _ h => h) hC4 rfl ?_; apply Exists.intro; refine ⟨?_, ?_⟩
          · rintro w ⟨r1, r2, r3⟩; go_simp; try with_reducible rfl
          simp only [Act.put, List.setIfInBounds_toArray, List.set_cons_succ, List.set_cons_zero]
          refine Lim.stepR 7 (fun _ => trivial) rfl (by kernel_rfl) (fun _ _ _ _ h => h) hC4 rfl ?_; apply Exists.intro; refine ⟨?_, ?_⟩
          · rintro w ⟨r1, r2, r3⟩; go_simp; try with_reducible rfl
          simp only [Act.put, List.setIfInBounds_toArray, List.set_cons_succ, List.set_cons_zero]
          refine Lim.stepD (by kernel_rfl) ?_
          have BR4 : Below w.heap.size w w4 := HBD.out.trans (HB4.out.mono HBD.out.size)
          have HRA := Lib.hid (And.intro HOA4.out HOB.out)
          obtain ⟨aa, acap, rfl, -⟩ := HOA4.out
          obtain ⟨ba, bcap, rfl, -⟩ := HOB.out
          obtain ⟨i0, hi, hz0, hz1, hz2⟩ := info_parts Try.infoInt
          have HI := Lib.hid (And.intro hi (And.intro hz0 (And.intro hz1 hz2)))
          obtain ⟨r0, r1, r2⟩ := hC4
          have HTL := Lib.hid (show T.length = ss.length by have := HL.out; have := HLS.out; omega)
          clear hi hz0 hz1 hz2 hC hC3 HOA4 HOB CP
          go_wp2
          go_loopw [10, 11] (fun v i W => ∃ k : Nat, k ≤ T.length ∧ i = .int .i64 k ∧ W.ownsRow w4.heap.size 3 1 v k (ints ((List.range k).map (drainOf ss a b))) ∧ Below w4.heap.size w4 W) (fun _ i _ => T.length - (intOf i).toNat)
          case atStart => exact ⟨0, Nat.zero_le _, rfl, World.ownsRow_nil _ _ _ _, Below.refl _ _⟩
          case round =>
            obtain ⟨k, hk, rfl, hown, hbr⟩ := hrel
            have hsr := hbr.size
            by_cases hlt : k < T.length
            · have p0 := cell_on hbr r0
              have p1 := cell_on hbr r1
              have p2 := cell_on hbr r2
              have BRr := BR4.trans (hbr.mono BR4.size)
              have CD := Lib.hid (drain_any (B := wr.heap.size) (wd := wd) (hv := .slice ha hs.length hcap) (sv := .slice sa ss.length scap) (c := k) (w := wr) (by have := HLS.out; omega) (by have := HTL.out; omega) (Nat.le_refl _) ((HHS.out.2.below (BRr.mono hB)).mono (by have := BRr.size; omega)) ((HRA.out.1.below hbr).mono hsr) ((HRA.out.2.below hbr).mono hsr))
              have HO := Lib.hid hown
              clear hown BRr
              go_wp2_with fail
              refine CD.out.mono ?_
              clear CD
              rintro e w5 ⟨rfl, hb5⟩
              have HO5 := Lib.hid (owns_below HO.out hb5)
              have HB5 := hbr.trans (hb5.mono hsr)
              have hs5 := HB5.size
              have hkk : k < 100 := by have := HTL.out; have := HLS.out; omega
              clear hb5 p0 p1 p2 HO
              go_wp2_with (at_builtin; refine wpList_append_own _ rfl _ _ 23 rfl w4.heap.size 3 i0 (.int .i64 0) 1 8 Try.underlying23 HI.out.1 HI.out.2.1 HI.out.2.2.1 HI.out.2.2.2 rfl (by decide) _ _ _ rfl (HO5.out.alloc _) ⟨w5.heap.size, 0, none⟩ 1 1 [.int .i64 (drainOf ss a b k)] rfl rfl (cell_one_new _ _ _) (by simp [Value.oneCell']) (by unfold maxLen; omega) (by omega) (by simp; omega) ?_; intro v' w6 hown6 hgrow _)
              have HB6 : Below w4.heap.size w4 w6 := (HB5.alloc hs5 _).grown hgrow (by simp; omega) (fun j e => by have := HO5.out.lt j e; omega)
              have HS : Hid (ints ((List.range (k + 1)).map (drainOf ss a b)) = ints ((List.range k).map (drainOf ss a b)) ++ [.int .i64 (drainOf ss a b k)]) := Lib.hid (by rw [List.range_succ, List.map_append, List.map_singleton]; unfold ints; rw [List.map_append]; rfl)
              clear hgrow HB5
              go_wp2
              go_roundw
              case rel => exact ⟨k + 1, by omega, by go_num, by rw [HS.out]; exact hown6, HB6⟩
              case measure => simp [intOf]; omega
            · obtain rfl : k = T.length := by omega
              have HO := Lib.hid hown
              clear hown
              go_wp2
              go_ret2
              refine ⟨_, _, (List.range ss.length).map (drainOf ss a b), rfl, BR4.trans (hbr.mono BR4.size), .inr (.inr (.inr ⟨HE.out, HL.out, HIN.out, rfl, a, b, HPA.out, HPB.out, rfl⟩)), ?_⟩
              have h := owns_mono HO.out BR4.size
              rw [HTL.out] at h
              simpa using h
    · have hne2 : ((T.length : Int) != hs.length) = true := by rw [bne, show ((T.length : Int) == hs.length) = false from by rw [beq_eq_false_iff_ne]; omega]; rfl
      have HL := Lib.hid hlen
      clear hlen
      go_wp2
      go_ret2
      exact ⟨_, _, [], rfl, BR, .inr (.inl ⟨HE.out, HL.out, rfl, rfl⟩), World.ownsRow_nil _ _ _ _⟩
  · have he1 : (openErr wd hs ss != 0) = true := by rw [bne, show (openErr wd hs ss == 0) = false from by rw [beq_eq_false_iff_ne]; exact he]; rfl
    have HE := Lib.hid he
    clear he
    go_wp2
    go_ret2
    exact ⟨_, _, [], rfl, BR, .inl ⟨HE.out, rfl, rfl⟩, World.ownsRow_nil _ _ _ _⟩
end Go.Proofs.Ytdgibmgifgdpbaa
