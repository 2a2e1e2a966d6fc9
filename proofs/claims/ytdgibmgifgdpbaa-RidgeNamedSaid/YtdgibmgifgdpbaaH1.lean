/-
  Parts of the proof, in the order in which they build: RefA.
-/
import Derived.BigQuiet
import Derived.Test.YtdgibmgifgdpbaaG15
set_option linter.unusedVariables false
set_option linter.unusedSimpArgs false
namespace Go.Proofs.Ytdgibmgifgdpbaa
open Go.RowKit Go.Shelf
open Lim

/-- whether two cells are side by side, as the reference reckons it -/
def bes (m a b : Nat) : Bool :=
  ((((a % m : Nat) : Int) - ((b % m : Nat) : Int)) * (((a % m : Nat) : Int) - ((b % m : Nat) : Int)) + (((a / m : Nat) : Int) - ((b / m : Nat) : Int)) * (((a / m : Nat) : Int) - ((b / m : Nat) : Int))) == 1

theorem sq_range {x : Int} (h : -100 ≤ x ∧ x ≤ 100) : -10000 ≤ x * x ∧ x * x ≤ 10000 := by
  have h1 : 0 ≤ x * x := by
    rcases Int.le_total 0 x with h2 | h2
    · exact Int.mul_nonneg h2 h2
    · have := Int.mul_nonneg (show (0:Int) ≤ -x by omega) (show (0:Int) ≤ -x by omega)
      rw [Int.neg_mul_neg] at this; exact this
  have h2 : (100 - x) * (100 + x) ≥ 0 := Int.mul_nonneg (by omega) (by omega)
  have h3 : (100 - x) * (100 + x) = 10000 - x * x := by
    rw [Int.sub_mul, Int.mul_add, Int.mul_add, Int.mul_comm x 100]; omega
  omega

set_option maxRecDepth 20000 in
set_option maxHeartbeats 1000000 in
theorem beside_any (m a b : Nat) (hv sv : Value) (w : World) (hm : 0 < m ∧ m ≤ 100) (ha : a < 100) (hb : b < 100) :
    Calls Try.prog 84 #[.agg #[.int .i64 m, hv, sv], .int .i64 a, .int .i64 b] w fun e w' => e = .returned (.bool (bes m a b)) ∧ Below w.heap.size w w' := by
  have e1 : (a : Int).tmod (m : Int) = ((a % m : Nat) : Int) := (Int.ofNat_tmod _ _).symm
  have e2 : (b : Int).tmod (m : Int) = ((b % m : Nat) : Int) := (Int.ofNat_tmod _ _).symm
  have e3 : (a : Int).tdiv (m : Int) = ((a / m : Nat) : Int) := (Int.ofNat_tdiv _ _).symm
  have e4 : (b : Int).tdiv (m : Int) = ((b / m : Nat) : Int) := (Int.ofNat_tdiv _ _).symm
  have b1 := Nat.mod_lt a hm.1
  have b2 := Nat.mod_lt b hm.1
  have b3 := Nat.div_le_self a m
  have b4 := Nat.div_le_self b m
  have hm0 : ¬ m = 0 := by omega
  have HE : Hid (bes m a b = ((((a % m : Nat) : Int) - ((b % m : Nat) : Int)) * (((a % m : Nat) : Int) - ((b % m : Nat) : Int)) + (((a / m : Nat) : Int) - ((b / m : Nat) : Int)) * (((a / m : Nat) : Int) - ((b / m : Nat) : Int)) == 1)) := Lib.hid rfl
  generalize bes m a b = r at HE ⊢
  generalize a % m = am at *
  generalize b % m = bm at *
  generalize a / m = ad at *
  generalize b / m = bd at *
  obtain ⟨x, hx⟩ : ∃ x : Int, x = (am : Int) - (bm : Int) := ⟨_, rfl⟩
  obtain ⟨y, hy⟩ : ∃ y : Int, y = (ad : Int) - (bd : Int) := ⟨_, rfl⟩
  have hxr : -100 ≤ x ∧ x ≤ 100 := by omega
  have hyr : -100 ≤ y ∧ y ≤ 100 := by omega
  have s1 := sq_range hxr
  have s2 := sq_range hyr
  have HE2 : Hid (r = (x * x + y * y == 1)) := Lib.hid (by rw [HE.out, ← hx, ← hy])
  clear HE
  have hx' := hx.symm
  have hy' := hy.symm
  clear hx hy
  go_enter Try.func84, Try.ntmps84
  go_wp2
  go_quiet (fail)
  go_wp2
  go_ret
  exact ⟨by rw [HE2.out]; rfl, below_drewN ((Below.refl _ _).alloc (Nat.le_refl _) _) _⟩

/-- side by side is to be neighbours -/
theorem bes_iff {m N a b : Nat} (hm : 0 < m) (hd : N % m = 0) (ha : a < N) (hb : b < N) : bes m a b = true ↔ (b : Int) ∈ nbrL m N a := by
  rw [mem_nbr]
  unfold bes
  rw [beq_iff_eq]
  have h1 := Nat.div_add_mod a m
  have h2 := Nat.div_add_mod b m
  have h3 := Nat.mod_lt a hm
  have h4 := Nat.mod_lt b hm
  generalize a % m = ar at *
  generalize b % m = br at *
  generalize a / m = ad at *
  generalize b / m = bd at *
  have key : ∀ x y : Int, x * x + y * y = 1 ↔ (x = 0 ∧ (y = 1 ∨ y = -1)) ∨ (y = 0 ∧ (x = 1 ∨ x = -1)) := by
    intro x y
    constructor
    · intro h
      have sq : ∀ z : Int, 0 ≤ z * z := fun z => by
        rcases Int.le_total 0 z with h2 | h2
        · exact Int.mul_nonneg h2 h2
        · have := Int.mul_nonneg (show (0:Int) ≤ -z by omega) (show (0:Int) ≤ -z by omega)
          rwa [Int.neg_mul_neg] at this
      have big : ∀ z : Int, z * z ≤ 1 → z = 0 ∨ z = 1 ∨ z = -1 := fun z hz => by
        by_cases h5 : 2 ≤ z
        · have := Int.mul_le_mul h5 h5 (by omega) (by omega); omega
        · by_cases h6 : z ≤ -2
          · have := Int.mul_le_mul (show (2:Int) ≤ -z by omega) (show (2:Int) ≤ -z by omega) (by omega) (by omega)
            rw [Int.neg_mul_neg] at this; omega
          · omega
      have s1 := sq x
      have s2 := sq y
      have b1 := big x (by omega)
      have b2 := big y (by omega)
      rcases b1 with rfl | rfl | rfl <;> rcases b2 with rfl | rfl | rfl <;> simp_all
    · rintro (⟨rfl, rfl | rfl⟩ | ⟨rfl, rfl | rfl⟩) <;> simp
  rw [key]
  constructor
  · rintro (⟨h5, h6⟩ | ⟨h5, h6⟩)
    · have e : ar = br := by omega
      subst e
      rcases h6 with h6 | h6
      · have e : ad = bd + 1 := by omega
        subst e
        rw [Nat.mul_add] at h1
        exact .inr (.inr (.inl ⟨by omega, by omega⟩))
      · have e : bd = ad + 1 := by omega
        subst e
        rw [Nat.mul_add] at h2
        exact .inr (.inr (.inr ⟨by omega, by omega⟩))
    · have e : ad = bd := by omega
      subst e
      rcases h6 with h6 | h6
      · exact .inl ⟨by omega, by omega⟩
      · exact .inr (.inl ⟨by omega, by omega⟩)
  · have uniq : ∀ (q r q' r' : Nat), m * q + r = m * q' + r' → r < m → r' < m → q = q' ∧ r = r' := by
      intro q r q' r' h hr hr'
      have e1 : (m * q + r) / m = q := by rw [Nat.mul_add_div hm, Nat.div_eq_of_lt hr]; omega
      have e2 : (m * q' + r') / m = q' := by rw [Nat.mul_add_div hm, Nat.div_eq_of_lt hr']; omega
      have e : q = q' := by rw [← e1, ← e2, h]
      subst e
      exact ⟨rfl, by omega⟩
    rintro (⟨h5, h6⟩ | ⟨h5, h6⟩ | ⟨h5, h6⟩ | ⟨h5, h6⟩)
    · obtain ⟨rfl, e⟩ := uniq ad (ar - 1) bd br (by omega) (by omega) h4
      exact .inr ⟨by omega, by omega⟩
    · obtain ⟨rfl, e⟩ := uniq ad (ar + 1) bd br (by omega) (by omega) h4
      exact .inr ⟨by omega, by omega⟩
    · have h7 : 0 < ad := by
        rcases Nat.eq_zero_or_pos ad with e | e
        · subst e; omega
        · exact e
      obtain ⟨x, rfl⟩ : ∃ x, ad = x + 1 := ⟨ad - 1, by omega⟩
      rw [Nat.mul_add] at h1
      obtain ⟨rfl, e⟩ := uniq x ar bd br (by omega) h3 h4
      exact .inl ⟨by omega, by omega⟩
    · have h8 : m * (ad + 1) = m * ad + m := by rw [Nat.mul_add]; omega
      obtain ⟨rfl, e⟩ := uniq (ad + 1) ar bd br (by omega) h3 h4
      exact .inl ⟨by omega, by omega⟩

theorem atB_iff_bes {g : Gd} (hg : g.Ok) {c : Nat} (hc : c < g.n) (s : Int) : atB g c s = true ↔ ∃ k, k < g.n ∧ g.ss.getD k 0 = s ∧ bes g.wd c k = true := by
  unfold atB
  rw [List.any_eq_true]
  constructor
  · rintro ⟨x, hx, hs⟩
    obtain ⟨k, rfl, hk⟩ := mem_nbrL hg.w0 hg.dv hc hx
    exact ⟨k, hk, by simpa using hs, (bes_iff hg.w0 hg.dv hc hk).2 hx⟩
  · rintro ⟨k, hk, hs, hb⟩
    exact ⟨k, (bes_iff hg.w0 hg.dv hc hk).1 hb, by simpa using hs⟩

set_option maxRecDepth 20000 in
set_option maxHeartbeats 1000000 in
theorem coast_any {B : Nat} {g : Gd} {hv sv : Value} {c : Nat} {s : Int} {w : World} (hg : g.Ok) (hc : c < g.n) (hB : B ≤ w.heap.size) (hss : RS B w sv g.ss.length (ints g.ss)) :
    Calls Try.prog 56 #[.agg #[.int .i64 g.wd, hv, sv], .int .i64 c, .int .i64 s] w fun e w' => e = .returned (.bool (atB g c s)) ∧ Below w.heap.size w w' := by
  obtain ⟨sa, scap, rfl, hsc⟩ := hss
  have HA := Lib.hid (atB_iff_bes hg hc s)
  have hn := hg.n1
  have HG := Lib.hid hg
  have hcn : c < 100 := Nat.lt_of_lt_of_le hc hn
  clear hg
  go_enter Try.func56, Try.ntmps56
  go_wp2
  generalize hW : World.alloc _ _ = W0
  have hB0 : Below w.heap.size w W0 := by rw [← hW]; exact (Below.refl _ w).alloc (Nat.le_refl _) _
  have f0 : W0.cell? ⟨w.heap.size, 0, none⟩ = some (.int .i64 g.wd) := by rw [← hW]; simp [go_sem]
  have f1 : W0.cell? ⟨w.heap.size, 1, none⟩ = some hv := by rw [← hW]; simp [go_sem]
  have f2 : W0.cell? ⟨w.heap.size, 2, none⟩ = some (.slice sa g.ss.length scap) := by rw [← hW]; simp [go_sem]
  clear hW
  go_loopw [7] (fun i wr => ∃ k : Nat, k ≤ g.ss.length ∧ i = .int .i64 k ∧ Below W0.heap.size W0 wr ∧ Hid (∀ j, j < k → g.ss.getD j 0 = s → bes g.wd c j = false)) (fun i _ => g.ss.length - (intOf i).toNat)
  case atStart => exact ⟨0, Nat.zero_le _, rfl, Below.refl _ _, Lib.hid (fun j hj => absurd hj (by omega))⟩
  case round =>
    obtain ⟨k, hk, rfl, hbr, HN⟩ := hrel
    have r0 := cell_on hbr f0
    have r1 := cell_on hbr f1
    have r2 := cell_on hbr f2
    have hBr : Below w.heap.size w wr := hB0.trans (hbr.mono hB0.size)
    have HBR := Lib.hid hbr
    clear hbr
    by_cases hlt : k < g.ss.length
    · obtain ⟨sb, soff, rfl, hsb, hcell⟩ := hsc (ints_ne (by omega))
      obtain ⟨x, hx⟩ : ∃ x, x = g.ss.getD k 0 := ⟨_, rfl⟩
      have q0 : wr.cell? ⟨sb, soff + k, none⟩ = some (.int .i64 x) := by rw [hx, List.getD_eq_getElem?_getD]; exact cell_below hBr (hcell k _ (ints_at' _ _ hlt)) (by simp; omega)
      have HX := Lib.hid hx
      clear hcell hsc hx
      by_cases hs : x = s
      · subst hs
        have CB := Lib.hid (beside_any g.wd c k hv (.slice (some ⟨sb, soff, none⟩) g.ss.length scap) wr ⟨HG.out.w0, HG.out.w1⟩ hcn (by omega))
        go_wp2_with fail
        refine CB.out.mono ?_
        clear CB
        rintro e w2 ⟨rfl, hb2⟩
        have hB2 := hBr.trans (hb2.mono hBr.size)
        cases hbs : bes g.wd c k with
        | true =>
          have HR := Lib.hid (HA.out.2 ⟨k, hlt, HX.out.symm, hbs⟩)
          go_wp2
          go_ret
          exact ⟨by rw [HR.out]; rfl, hB2⟩
        | false =>
          have HB2 := Lib.hid hbs
          go_wp2
          go_roundw
          case rel => exact ⟨k + 1, by omega, by go_num, HBR.out.trans (hb2.mono HBR.out.size), Lib.hid (fun j hj hjs => by
            by_cases e : j = k
            · subst e; exact HB2.out
            · exact HN.out j (by omega) hjs)⟩
          case measure => simp [intOf]; omega
      · have hs1 : (x == s) = false := by rw [beq_eq_false_iff_ne]; exact hs
        have HS := Lib.hid hs
        clear hs
        go_wp2
        go_roundw
        case rel => exact ⟨k + 1, by omega, by go_num, HBR.out, Lib.hid (fun j hj hjs => by
            by_cases e : j = k
            · subst e; exact absurd (HX.out.trans hjs) HS.out
            · exact HN.out j (by omega) hjs)⟩
        case measure => simp [intOf]; omega
    · obtain rfl : k = g.ss.length := by omega
      have HR : Hid (atB g c s = false) := Lib.hid (by
        rw [Bool.eq_false_iff]
        intro h
        obtain ⟨j, hj, h1, h2⟩ := HA.out.1 h
        have := HN.out j hj h1
        rw [this] at h2; cases h2)
      go_wp2
      go_ret
      exact ⟨by rw [HR.out]; rfl, hBr⟩
end Go.Proofs.Ytdgibmgifgdpbaa
