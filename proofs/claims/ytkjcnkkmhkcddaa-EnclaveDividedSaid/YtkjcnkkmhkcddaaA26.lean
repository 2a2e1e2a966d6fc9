/-
  Parts of the proof, in the order in which they build: EvW.
-/
import Derived.Test.YtkjcnkkmhkcddaaA25
set_option linter.unusedVariables false
set_option linter.unusedSimpArgs false
namespace Go.Proofs.Ytkjcnkkmhkcddaa
open Go.RowKit Go.Shelf
open Lim

/-- y is to the east of x; .. to the south -/
def eas (n wd x y : Nat) : Prop := x + 1 = y ∧ ¬ y % wd = 0 ∧ y < n
def sou (n wd x y : Nat) : Prop := x + wd = y ∧ y < n
instance (n wd x y : Nat) : Decidable (eas n wd x y) := inferInstanceAs (Decidable (_ ∧ _))
instance (n wd x y : Nat) : Decidable (sou n wd x y) := inferInstanceAs (Decidable (_ ∧ _))
def dnP (p i a d : Nat) : Prop := a < p ∨ (a = p ∧ d < i)
instance (p i a d : Nat) : Decidable (dnP p i a d) := inferInstanceAs (Decidable (_ ∨ _))
/-- the houses behind p plots and i looks -/
def hsP (n wd : Nat) (E S : Nat → Int) (p i x y : Nat) : Option Int :=
  if eas n wd x y ∧ dnP p i x 0 then some (E x) else if sou n wd x y ∧ dnP p i x 1 then some (S x) else if eas n wd y x ∧ dnP p i y 0 then some (E y) else if sou n wd y x ∧ dnP p i y 1 then some (S y) else none
section
variable {n wd : Nat} {E S : Nat → Int} {p : Nat}
theorem eas_sou {x y : Nat} (h : eas n wd x y) (h2 : sou n wd x y) : False := by
  obtain ⟨h1, h3, -⟩ := h
  have e : wd = 1 := by have := h2.1; omega
  rw [e, Nat.mod_one] at h3
  exact h3 rfl
theorem eas_lt {x y : Nat} (h : eas n wd x y) : x < y := by have := h.1; omega
theorem sou_lt (hw : 0 < wd) {x y : Nat} (h : sou n wd x y) : x < y := by have := h.1; omega
theorem hsP_start : hsP n wd E S 0 0 = fun _ _ => none := by
  funext x y
  have h : ∀ a d, ¬ dnP 0 0 a d := fun a d h => by unfold dnP at h; omega
  simp only [hsP, h, and_false, if_false]
theorem dn_next (a d : Nat) (hd : d < 2) : dnP p 2 a d ↔ dnP (p + 1) 0 a d := by unfold dnP; omega
theorem hsP_next : hsP n wd E S p 2 = hsP n wd E S (p + 1) 0 := by
  funext x y
  simp only [hsP, dn_next _ 0 (by omega), dn_next _ 1 (by omega)]
theorem dn_one {a d : Nat} (h : ¬ (a = p ∧ d = 0)) : dnP p 1 a d ↔ dnP p 0 a d := by unfold dnP; omega
theorem dn_two {a d : Nat} (h : ¬ (a = p ∧ d = 1)) (hd : d < 2) : dnP p 2 a d ↔ dnP p 1 a d := by unfold dnP; omega
theorem and_dn {q a b : Prop} (h : q → (a ↔ b)) : (q ∧ a) ↔ (q ∧ b) := ⟨fun ⟨x, y⟩ => ⟨x, (h x).1 y⟩, fun ⟨x, y⟩ => ⟨x, (h x).2 y⟩⟩
theorem hsP_skip0 (h : ¬ eas n wd p (p + 1)) : hsP n wd E S p 1 = hsP n wd E S p 0 := by
  funext x y
  have e : ∀ x y, (eas n wd x y ∧ dnP p 1 x 0) ↔ (eas n wd x y ∧ dnP p 0 x 0) := fun x y => and_dn fun hx => dn_one (fun ⟨e, _⟩ => h (by rw [e] at hx; rw [← hx.1] at hx; exact hx))
  have e2 : ∀ x, dnP p 1 x 1 ↔ dnP p 0 x 1 := fun x => dn_one (by omega)
  simp only [hsP, e, e2]
theorem hsP_skip1 (h : ¬ sou n wd p (p + wd)) : hsP n wd E S p 2 = hsP n wd E S p 1 := by
  funext x y
  have e : ∀ x y, (sou n wd x y ∧ dnP p 2 x 1) ↔ (sou n wd x y ∧ dnP p 1 x 1) := fun x y => and_dn fun hx => dn_two (fun ⟨e, _⟩ => h (by rw [e] at hx; rw [← hx.1] at hx; exact hx)) (by omega)
  have e2 : ∀ x, dnP p 2 x 0 ↔ dnP p 1 x 0 := fun x => dn_two (by omega) (by omega)
  simp only [hsP, e, e2]
theorem hsP_set0 (hw : 0 < wd) (h : eas n wd p (p + 1)) : (fun a c => if a = p + 1 ∧ c = p then some (E p) else if a = p ∧ c = p + 1 then some (E p) else hsP n wd E S p 0 a c) = hsP n wd E S p 1 := by
  funext x y
  have e2 : ∀ x, dnP p 1 x 1 ↔ dnP p 0 x 1 := fun x => dn_one (by omega)
  by_cases h1 : x = p + 1 ∧ y = p
  · obtain ⟨rfl, rfl⟩ := h1
    have n1 : ¬ eas n wd (y + 1) y := fun h => by have := eas_lt h; omega
    have n2 : ¬ sou n wd (y + 1) y := fun h => by have := sou_lt hw h; omega
    have d1 : dnP y 1 y 0 := .inr ⟨rfl, by omega⟩
    simp [hsP, n1, n2, h, d1]
  · rw [if_neg h1]
    by_cases h2 : x = p ∧ y = p + 1
    · obtain ⟨rfl, rfl⟩ := h2
      have d1 : dnP x 1 x 0 := .inr ⟨rfl, by omega⟩
      simp [hsP, h, d1]
    · rw [if_neg h2]
      have e : (eas n wd x y ∧ dnP p 1 x 0) ↔ (eas n wd x y ∧ dnP p 0 x 0) := and_dn fun hx => dn_one (fun ⟨e, _⟩ => h2 ⟨e, by rw [← hx.1, e]⟩)
      have e' : (eas n wd y x ∧ dnP p 1 y 0) ↔ (eas n wd y x ∧ dnP p 0 y 0) := and_dn fun hx => dn_one (fun ⟨e, _⟩ => h1 ⟨by rw [← hx.1, e], e⟩)
      simp only [hsP, e, e', e2]
theorem hsP_set1 (hw : 0 < wd) (h : sou n wd p (p + wd)) : (fun a c => if a = p + wd ∧ c = p then some (S p) else if a = p ∧ c = p + wd then some (S p) else hsP n wd E S p 1 a c) = hsP n wd E S p 2 := by
  funext x y
  have e2 : ∀ x, dnP p 2 x 0 ↔ dnP p 1 x 0 := fun x => dn_two (by omega) (by omega)
  by_cases h1 : x = p + wd ∧ y = p
  · obtain ⟨rfl, rfl⟩ := h1
    have n1 : ¬ eas n wd (y + wd) y := fun h => by have := eas_lt h; omega
    have n2 : ¬ sou n wd (y + wd) y := fun h => by have := sou_lt hw h; omega
    have n3 : ¬ eas n wd y (y + wd) := fun h' => eas_sou h' h
    have d1 : dnP y 2 y 1 := .inr ⟨rfl, by omega⟩
    simp [hsP, n1, n2, n3, h, d1]
  · rw [if_neg h1]
    by_cases h2 : x = p ∧ y = p + wd
    · obtain ⟨rfl, rfl⟩ := h2
      have n3 : ¬ eas n wd x (x + wd) := fun h' => eas_sou h' h
      have d1 : dnP x 2 x 1 := .inr ⟨rfl, by omega⟩
      simp [hsP, n3, h, d1]
    · rw [if_neg h2]
      have e : (sou n wd x y ∧ dnP p 2 x 1) ↔ (sou n wd x y ∧ dnP p 1 x 1) := and_dn fun hx => dn_two (fun ⟨e, _⟩ => h2 ⟨e, by rw [← hx.1, e]⟩) (by omega)
      have e' : (sou n wd y x ∧ dnP p 2 y 1) ↔ (sou n wd y x ∧ dnP p 1 y 1) := and_dn fun hx => dn_two (fun ⟨e, _⟩ => h1 ⟨by rw [← hx.1, e], e⟩) (by omega)
      simp only [hsP, e, e', e2]
end
/-- the houses between each two neighbours -/
def hsF (n wd : Nat) (E S : Nat → Int) (x y : Nat) : Option Int :=
  if eas n wd x y then some (E x) else if sou n wd x y then some (S x) else if eas n wd y x then some (E y) else if sou n wd y x then some (S y) else none
theorem hsP_all {n wd : Nat} (hw : 0 < wd) {E S : Nat → Int} : hsP n wd E S n 0 = hsF n wd E S := by
  funext x y
  have d1 : ∀ x y, (eas n wd x y ∧ dnP n 0 x 0) ↔ eas n wd x y := fun x y => ⟨fun h => h.1, fun h => ⟨h, .inl (by have := eas_lt h; have := h.2.2; omega)⟩⟩
  have d2 : ∀ x y, (sou n wd x y ∧ dnP n 0 x 1) ↔ sou n wd x y := fun x y => ⟨fun h => h.1, fun h => ⟨h, .inl (by have := sou_lt hw h; have := h.2; omega)⟩⟩
  simp only [hsP, hsF, d1, d2]
theorem Lim.MapS.sep {T : Nat → Prop} {W W' : World} {b n : Nat} {F : Nat → Nat → Option Int} (h : MapS W b n F) (hs : Sep T W W') (hT : ¬ T b) : MapS W' b n F := h.same (hs.same b h.lt hT)
theorem LdAt.sep {T : Nat → Prop} {W W' : World} {b wd : Nat} {ov ev sv : Value} (h : LdAt W b wd ov ev sv) (hs : Sep T W W') (hT : ¬ T b) : LdAt W' b wd ov ev sv := ⟨hs.cell h.f0 hT, hs.cell h.f1 hT, hs.cell h.f2 hT, hs.cell h.f3 hT⟩
/-- the map that houses makes -/
structure HoM (w : World) (bl bm wd c : Nat) (ov ev sv : Value) (F : Nat → Nat → Option Int) (W : World) : Prop where
  be : Below w.heap.size w W
  ld : LdAt W bl wd ov ev sv
  mp : MapS W bm c F
  lt : w.heap.size ≤ bl ∧ w.heap.size ≤ bm ∧ bl ≠ bm
section
variable {w W W' : World} {bl bm wd c : Nat} {ov ev sv : Value} {F : Nat → Nat → Option Int}
theorem HoM.on (h : HoM w bl bm wd c ov ev sv F W) (hb : Below W.heap.size W W') : HoM w bl bm wd c ov ev sv F W' := ⟨h.be.trans (hb.mono h.be.size), h.ld.on hb, h.mp.sep (T := fun _ => False) (Sep.of_below hb) (fun x => x), h.lt⟩
theorem HoM.to {G : Nat → Nat → Option Int} {c' : Nat} (h : HoM w bl bm wd c ov ev sv F W) (hc : c ≤ c') (hF : F = G) : HoM w bl bm wd c' ov ev sv G W := by
  subst hF
  exact ⟨h.be, h.ld, h.mp.more hc, h.lt⟩
theorem HoM.put {G : Nat → Nat → Option Int} {c' : Nat} (h : HoM w bl bm wd c ov ev sv F W) (hg : W.grownBy W' (some bm)) (hm : MapS W' bm c' G) : HoM w bl bm wd c' ov ev sv G W' :=
  have hs := Sep.of_grown hg
  ⟨h.be.trans (hs.below h.be.size (fun k hk => by cases hk; exact h.lt.2.1)), h.ld.sep hs (fun hk => h.lt.2.2 (by cases hk; rfl)), hm, h.lt⟩
end
theorem le_ite (b : Bool) : (if b = true then 0 else 1) ≤ 1 := by cases b <;> decide
theorem looks_at0 (a b c d : Value) (w : World) : (Instr.index 142 (.agg #[a, b, c, d]) (.int .i64 0)).run Try.prog w = .ok (.agg #[a, b]) w := by
  simp [Instr.index, Try.underlying142, go_sem]
theorem looks_at1 (a b c d : Value) (w : World) : (Instr.index 142 (.agg #[a, b, c, d]) (.int .i64 1)).run Try.prog w = .ok (.agg #[c, d]) w := by
  simp [Instr.index, Try.underlying142, go_sem]
set_option maxRecDepth 20000 in
set_option maxHeartbeats 1000000 in
theorem houses_aux {B wd n : Nat} {ov ev sv : Value} {es ss : List Int} {E S : Nat → Int} {w : World} (hB : B ≤ w.heap.size) {oa : Option Addr} {oc : Nat} (hov : ov = .slice oa n oc) (he : RS B w ev es.length (ints es)) (hs : RS B w sv ss.length (ints ss))
    (hel : es.length = n) (hsl : ss.length = n) (hn : n ≤ 100) (hw : 0 < wd) (hwn : wd ≤ n) (hEq : ∀ k, es.getD k 0 = E k) (hSq : ∀ k, ss.getD k 0 = S k) (hE : ∀ k, k < n → 0 ≤ E k ∧ E k ≤ 1000) (hS : ∀ k, k < n → 0 ≤ S k ∧ S k ≤ 1000) :
    Calls Try.prog 75 #[.agg #[.int .i64 wd, ov, ev, sv]] w fun e w' => ∃ b, e = .returned (.map (some b)) ∧ w.heap.size ≤ b ∧ MapS w' b 400 (hsF n wd E S) ∧ Below w.heap.size w w' := by
  subst hov
  have H0 := Lib.hid (show HoM w w.heap.size (w.heap.size + 1) wd 0 (.slice oa n oc) ev sv (hsP n wd E S 0 0) ((w.alloc (.cells #[.int .i64 wd, .slice oa n oc, ev, sv] 44)).alloc (.map #[] 0)) from by
    rw [hsP_start]
    refine ⟨((Below.refl _ w).alloc (Nat.le_refl _) _).alloc (by simp [go_sem]) _, (LdAt.box w wd (.slice oa n oc) ev sv).on ((Below.refl _ _).alloc (Nat.le_refl _) _), ?_, ⟨Nat.le_refl _, by omega, by omega⟩⟩
    have h := MapS.made (w.alloc (.cells #[.int .i64 wd, .slice oa n oc, ev, sv] 44))
    have e : (w.alloc (.cells #[.int .i64 wd, .slice oa n oc, ev, sv] 44)).heap.size = w.heap.size + 1 := by simp [go_sem]
    rw [e] at h
    exact h)
  have HV := Lib.hid (And.intro hB (And.intro he hs))
  have HE := Lib.hid (And.intro hE (And.intro hS (And.intro hEq hSq)))
  have HL := Lib.hid (And.intro hel hsl)
  obtain ⟨f0, f1, f2, f3⟩ := H0.out.ld
  clear he hs hE hS hEq hSq hel hsl hB
  go_enter Try.func75, Try.ntmps75
  generalize hW : (w.alloc (.cells #[.int .i64 wd, .slice oa n oc, ev, sv] 44)).alloc (.map #[] 0) = W0 at H0 f0 f1 f2 f3
  go_wp2_with fail
  rw [run_makeMap]
  rw [show (w.alloc (.cells #[.int .i64 wd, .slice oa n oc, ev, sv] 44)).heap.size = w.heap.size + 1 by simp [go_sem], hW]
  clear hW
  obtain ⟨bl, hbl⟩ : ∃ b, b = w.heap.size := ⟨_, rfl⟩
  rw [← hbl] at f0 f1 f2 f3
  have H0 : Hid (HoM w bl (bl + 1) wd 0 (.slice oa n oc) ev sv (hsP n wd E S 0 0) W0) := by rw [hbl]; exact H0
  rw [← hbl]
  obtain ⟨bm, hbm⟩ : ∃ b, b = bl + 1 := ⟨_, rfl⟩
  rw [← hbm] at H0
  rw [← hbm]
  clear hbl hbm
  go_wp2_with fail
  go_loopw [12] (fun v wr => ∃ p : Nat, p ≤ n ∧ v = .int .i64 p ∧ Hid (HoM w bl bm wd (4 * p) (.slice oa n oc) ev sv (hsP n wd E S p 0) wr)) (fun v _ => n - (intOf v).toNat)
  case atStart => exact ⟨0, Nat.zero_le _, rfl, H0⟩
  case round =>
    clear H0 f0 f1 f2 f3
    obtain ⟨p, hp, rfl, hI⟩ := hrel
    obtain ⟨f0, f1, f2, f3⟩ := hI.out.ld
    by_cases hlt : p < n
    · have hlt64 : (p : Int) < n := by omega
      have HW := Lib.hid (ways_any (wd := wd) (ov := .slice oa n oc) (ev := ev) (sv := sv) (w := wr))
      go_wp2_with fail
      refine HW.out.mono ?_
      rintro e w2 ⟨rfl, hb2, hl2⟩
      have HI2 : Hid (HoM w bl bm wd (4 * p) (.slice oa n oc) ev sv (hsP n wd E S p 0) w2 ∧ LdAt w2 wr.heap.size wd (.slice oa n oc) ev sv ∧ bm < wr.heap.size) := Lib.hid ⟨hI.out.on hb2, hl2 wd rfl, hI.out.mp.lt⟩
      obtain ⟨g, hg⟩ : ∃ g, g = wr.heap.size := ⟨_, rfl⟩
      rw [← hg] at HI2 ⊢
      clear hb2 hl2 hI HW hg f0 f1 f2 f3
      go_wp2_with fail
      go_loopw [17] (fun v wr => ∃ i : Nat, i ≤ 2 ∧ v = .int .i64 i ∧ Hid (HoM w bl bm wd (4 * p + 2 * i) (.slice oa n oc) ev sv (hsP n wd E S p i) wr ∧ LdAt wr g wd (.slice oa n oc) ev sv ∧ bm < g)) (fun v _ => 2 - (intOf v).toNat)
      case atStart => exact ⟨0, Nat.zero_le _, rfl, HI2⟩
      case round =>
        clear HI2
        obtain ⟨i, hi, rfl, hT⟩ := hrel
        rcases (by omega : i = 0 ∨ i = 1 ∨ i = 2) with rfl | rfl | rfl
        · skip
          obtain ⟨W1, hW1⟩ : ∃ W, wr.alloc (.cells #[.int .i64 1, .func (.func 104) #[] #[.pointer (some ⟨g, 0, none⟩)]] 141) = W := ⟨_, rfl⟩
          obtain ⟨q, hq⟩ : ∃ q, wr.heap.size = q := ⟨_, rfl⟩
          have hb1 : Below wr.heap.size wr W1 := by rw [← hW1]; exact (Below.refl _ _).alloc (Nat.le_refl _) _
          have x0 : W1.cell? ⟨q, 0, none⟩ = some (.int .i64 1) := by rw [← hW1, ← hq]; simp [go_sem]
          have x1 : W1.cell? ⟨q, 1, none⟩ = some (.func (.func 104) #[] #[.pointer (some ⟨g, 0, none⟩)]) := by rw [← hW1, ← hq]; simp [go_sem]
          have HI1 := Lib.hid (And.intro (hT.out.1.on hb1) (hT.out.2.1.on hb1))
          have HqB : Hid (¬ q = bm) := Lib.hid (by have := hT.out.1.mp.lt; omega)
          clear hb1
          have LK := looks_at0 (.int .i64 1) (.func (.func 104) #[] #[.pointer (some ⟨g, 0, none⟩)]) (.int .i64 wd) (.func (.func 105) #[] #[.pointer (some ⟨g, 0, none⟩)]) wr
          obtain ⟨f0, f1, f2, f3⟩ := HI1.out.1.ld
          obtain ⟨r, hr⟩ : ∃ r, r = (p + 1) % wd := ⟨_, rfl⟩
          have e5 : ((p : Int) + 1).tmod (wd : Int) = (r : Int) := by rw [hr]; exact (Int.ofNat_tmod (p + 1) wd).symm
          have hm0 : ¬ (wd : Int) = 0 := by omega
          have hwr : IntKind.i64.wrap ((p : Int) + 1) = (p : Int) + 1 := IntWalk.i64_in _ (by omega)
          have HR := Lib.hid hr
          clear hr
          by_cases h3 : r = 0
          · have d3 : ((r : Int) == 0) = true := by simp [h3]
            have HS : Hid (¬ eas n wd p (p + 1)) := Lib.hid (fun h => h.2.1 (by rw [← HR.out]; exact h3))
            clear h3
            go_wp2_with fail
            go_roundw
            case rel => exact ⟨1, by omega, by go_num, Lib.hid ⟨HI1.out.1.to (by omega) (hsP_skip0 HS.out).symm, HI1.out.2, hT.out.2.2⟩⟩
            case measure => simp [intOf]
          have d3 : ((r : Int) == 0) = false := by rw [beq_eq_false_iff_ne]; omega
          by_cases h4 : p + 1 < n
          · have d4 : decide ((n : Int) ≤ (p : Int) + 1) = false := by simp; omega
            have HS : Hid (eas n wd p (p + 1)) := Lib.hid ⟨rfl, by rw [← HR.out]; exact h3, h4⟩
            have hwv : (Lit.int .i64 (E p)).wf = true := WalkArith.wf_i64 ⟨by have := (HE.out.1 p hlt).1; omega, by have := (HE.out.1 p hlt).2; omega⟩
            have HC1 : Hid (Calls Try.prog 104 #[.int .i64 p, .pointer (some ⟨g, 0, none⟩)] W1 fun e w' => e = .returned (.int .i64 (E p)) ∧ w' = W1) := Lib.hid (by
              have h := east_any HI1.out.2 (HV.out.2.1.below (HI1.out.1.be.mono HV.out.1)) (p := p) (by rw [HL.out.1]; exact hlt) (by rw [HL.out.1]; exact hn)
              rw [HE.out.2.2.1 p] at h
              exact h)
            obtain ⟨w3, u3, m3, g3⟩ := HI1.out.1.mp.over (by unfold maxLen; omega) (x := p) (y := (p + 1)) (by omega) (by omega) hwv
            have HI3 := Lib.hid (And.intro (HI1.out.1.put g3 m3) (HI1.out.2.sep (Sep.of_grown g3) (fun h => by have := hT.out.2.2; cases h; omega)))
            simp only [Int.natCast_add, Int.natCast_one] at u3
            have y1 := (Sep.of_grown g3).cell x1 (fun h => HqB.out (by cases h; rfl))
            obtain ⟨k0, k1, k2, k3⟩ := HI3.out.1.ld
            clear m3 g3
            have HC3 : Hid (Calls Try.prog 104 #[.int .i64 p, .pointer (some ⟨g, 0, none⟩)] w3 fun e w' => e = .returned (.int .i64 (E p)) ∧ w' = w3) := Lib.hid (by
              have h := east_any HI3.out.2 (HV.out.2.1.below (HI3.out.1.be.mono HV.out.1)) (p := p) (by rw [HL.out.1]; exact hlt) (by rw [HL.out.1]; exact hn)
              rw [HE.out.2.2.1 p] at h
              exact h)
            obtain ⟨w4, u4, m4, g4⟩ := HI3.out.1.mp.over (by unfold maxLen; split <;> omega) (x := (p + 1)) (y := p) (by omega) (by omega) hwv
            have HI4 := Lib.hid (And.intro (HI3.out.1.put g4 m4) (HI3.out.2.sep (Sep.of_grown g4) (fun h => by have := hT.out.2.2; cases h; omega)))
            simp only [Int.natCast_add, Int.natCast_one] at u4
            clear m4 g4
            have HF := Lib.hid ((HI4.out.1.to (c' := 4 * p + 2 * 1) (Nat.le_trans (Nat.add_le_add (Nat.add_le_add (Nat.le_refl _) (le_ite _)) (le_ite _)) (by omega)) (hsP_set0 (E := E) (S := S) hw HS.out)))
            clear hwv h4 h3
            go_wp2_with fail
            refine HC1.out.mono ?_
            rintro e w' ⟨rfl, rfl⟩
            clear HC1
            go_wp2_with fail
            refine HC3.out.mono ?_
            rintro e w' ⟨rfl, rfl⟩
            clear HC3
            go_wp2_with fail
            go_roundw
            case rel => exact ⟨1, by omega, by go_num, Lib.hid ⟨HF.out, HI4.out.2, hT.out.2.2⟩⟩
            case measure => simp [intOf]
          · have d4 : decide ((n : Int) ≤ (p : Int) + 1) = true := by simp; omega
            have HS : Hid (¬ eas n wd p (p + 1)) := Lib.hid (fun h => h4 h.2.2)
            clear h4
            go_wp2_with fail
            go_roundw
            case rel => exact ⟨1, by omega, by go_num, Lib.hid ⟨HI1.out.1.to (by omega) (hsP_skip0 HS.out).symm, HI1.out.2, hT.out.2.2⟩⟩
            case measure => simp [intOf]
        · skip
          obtain ⟨W1, hW1⟩ : ∃ W, wr.alloc (.cells #[.int .i64 wd, .func (.func 105) #[] #[.pointer (some ⟨g, 0, none⟩)]] 141) = W := ⟨_, rfl⟩
          obtain ⟨q, hq⟩ : ∃ q, wr.heap.size = q := ⟨_, rfl⟩
          have hb1 : Below wr.heap.size wr W1 := by rw [← hW1]; exact (Below.refl _ _).alloc (Nat.le_refl _) _
          have x0 : W1.cell? ⟨q, 0, none⟩ = some (.int .i64 wd) := by rw [← hW1, ← hq]; simp [go_sem]
          have x1 : W1.cell? ⟨q, 1, none⟩ = some (.func (.func 105) #[] #[.pointer (some ⟨g, 0, none⟩)]) := by rw [← hW1, ← hq]; simp [go_sem]
          have HI1 := Lib.hid (And.intro (hT.out.1.on hb1) (hT.out.2.1.on hb1))
          have HqB : Hid (¬ q = bm) := Lib.hid (by have := hT.out.1.mp.lt; omega)
          clear hb1
          have LK := looks_at1 (.int .i64 1) (.func (.func 104) #[] #[.pointer (some ⟨g, 0, none⟩)]) (.int .i64 wd) (.func (.func 105) #[] #[.pointer (some ⟨g, 0, none⟩)]) wr
          obtain ⟨f0, f1, f2, f3⟩ := HI1.out.1.ld
          have hwr : IntKind.i64.wrap ((p : Int) + wd) = (p : Int) + wd := IntWalk.i64_in _ (by omega)
          by_cases h4 : p + wd < n
          · have d4 : decide ((n : Int) ≤ (p : Int) + wd) = false := by simp; omega
            have HS : Hid (sou n wd p (p + wd)) := Lib.hid ⟨rfl, h4⟩
            have hwv : (Lit.int .i64 (S p)).wf = true := WalkArith.wf_i64 ⟨by have := (HE.out.2.1 p hlt).1; omega, by have := (HE.out.2.1 p hlt).2; omega⟩
            have HC1 : Hid (Calls Try.prog 105 #[.int .i64 p, .pointer (some ⟨g, 0, none⟩)] W1 fun e w' => e = .returned (.int .i64 (S p)) ∧ w' = W1) := Lib.hid (by
              have h := south_any HI1.out.2 (HV.out.2.2.below (HI1.out.1.be.mono HV.out.1)) (p := p) (by rw [HL.out.2]; exact hlt) (by rw [HL.out.2]; exact hn)
              rw [HE.out.2.2.2 p] at h
              exact h)
            obtain ⟨w3, u3, m3, g3⟩ := HI1.out.1.mp.over (by unfold maxLen; omega) (x := p) (y := (p + wd)) (by omega) (by omega) hwv
            have HI3 := Lib.hid (And.intro (HI1.out.1.put g3 m3) (HI1.out.2.sep (Sep.of_grown g3) (fun h => by have := hT.out.2.2; cases h; omega)))
            simp only [Int.natCast_add, Int.natCast_one] at u3
            have y1 := (Sep.of_grown g3).cell x1 (fun h => HqB.out (by cases h; rfl))
            obtain ⟨k0, k1, k2, k3⟩ := HI3.out.1.ld
            clear m3 g3
            have HC3 : Hid (Calls Try.prog 105 #[.int .i64 p, .pointer (some ⟨g, 0, none⟩)] w3 fun e w' => e = .returned (.int .i64 (S p)) ∧ w' = w3) := Lib.hid (by
              have h := south_any HI3.out.2 (HV.out.2.2.below (HI3.out.1.be.mono HV.out.1)) (p := p) (by rw [HL.out.2]; exact hlt) (by rw [HL.out.2]; exact hn)
              rw [HE.out.2.2.2 p] at h
              exact h)
            obtain ⟨w4, u4, m4, g4⟩ := HI3.out.1.mp.over (by unfold maxLen; split <;> omega) (x := (p + wd)) (y := p) (by omega) (by omega) hwv
            have HI4 := Lib.hid (And.intro (HI3.out.1.put g4 m4) (HI3.out.2.sep (Sep.of_grown g4) (fun h => by have := hT.out.2.2; cases h; omega)))
            simp only [Int.natCast_add, Int.natCast_one] at u4
            clear m4 g4
            have HF := Lib.hid ((HI4.out.1.to (c' := 4 * p + 2 * 2) (Nat.le_trans (Nat.add_le_add (Nat.add_le_add (Nat.le_refl _) (le_ite _)) (le_ite _)) (by omega)) (hsP_set1 (E := E) (S := S) hw HS.out)))
            clear hwv h4
            go_wp2_with fail
            refine HC1.out.mono ?_
            rintro e w' ⟨rfl, rfl⟩
            clear HC1
            go_wp2_with fail
            refine HC3.out.mono ?_
            rintro e w' ⟨rfl, rfl⟩
            clear HC3
            go_wp2_with fail
            go_roundw
            case rel => exact ⟨2, by omega, by go_num, Lib.hid ⟨HF.out, HI4.out.2, hT.out.2.2⟩⟩
            case measure => simp [intOf]
          · have d4 : decide ((n : Int) ≤ (p : Int) + wd) = true := by simp; omega
            have HS : Hid (¬ sou n wd p (p + wd)) := Lib.hid (fun h => h4 h.2)
            clear h4
            go_wp2_with fail
            go_roundw
            case rel => exact ⟨2, by omega, by go_num, Lib.hid ⟨HI1.out.1.to (by omega) (hsP_skip1 HS.out).symm, HI1.out.2, hT.out.2.2⟩⟩
            case measure => simp [intOf]
        · go_wp2_with fail
          go_roundw
          case rel => exact ⟨p + 1, by omega, by go_num, Lib.hid (by rw [← hsP_next]; exact hT.out.1)⟩
          case measure => simp [intOf]; omega
    · have hlt' : ¬ (p : Int) < n := by omega
      go_wp2_with fail
      go_ret
      obtain rfl : p = n := by omega
      exact ⟨bm, rfl, hI.out.lt.2.1, by rw [← hsP_all hw]; exact hI.out.mp.more (by omega), hI.out.be⟩
end Go.Proofs.Ytkjcnkkmhkcddaa
