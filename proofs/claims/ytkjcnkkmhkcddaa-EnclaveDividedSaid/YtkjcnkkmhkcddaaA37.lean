/-
  Parts of the proof, in the order in which they build: EwJ, EwM.
-/
import Derived.Test.YtkjcnkkmhkcddaaA34
import Derived.Test.YtkjcnkkmhkcddaaA36
import Derived.Test.YtkjcnkkmhkcddaaA27
set_option linter.unusedVariables false
set_option linter.unusedSimpArgs false
/-
  Walks in plain words: what they use of each side, step by step; which walks prove something.
-/
namespace Go.Proofs.Ytkjcnkkmhkcddaa

/-- how often a list goes over the side of x and y -/
def use2 (L : List Nat) (x y : Nat) : Int := dirc L x y + dirc L y x
theorem use2_nonneg (L : List Nat) (x y : Nat) : 0 ≤ use2 L x y := by have := dirc_nonneg L x y; have := dirc_nonneg L y x; unfold use2; omega
theorem dirc_snoc (b x y : Nat) : ∀ (L : List Nat) (a : Nat), L.getLast? = some a → dirc (L ++ [b]) x y = dirc L x y + (if x = a ∧ y = b then 1 else 0)
  | [], a, h => by cases h
  | [p], a, h => by
    have e : p = a := by simpa using h
    subst e
    show (if x = p ∧ y = b then 1 else 0) + 0 = 0 + _
    omega
  | p :: q :: L, a, h => by
    have ih := dirc_snoc b x y (q :: L) a (by rw [← h]; simp)
    rw [show (p :: q :: L) ++ [b] = p :: q :: (L ++ [b]) from rfl, dirc, dirc, show q :: (L ++ [b]) = (q :: L) ++ [b] from rfl, ih]
    omega
theorem dirc_take_le (x y : Nat) : ∀ (L : List Nat) (k : Nat), dirc (L.take k) x y ≤ dirc L x y
  | [], k => by simp
  | [p], k => by
    cases k with
    | zero => exact Int.le_refl _
    | succ k => simp
  | p :: q :: L, 0 => dirc_nonneg _ _ _
  | p :: q :: L, 1 => dirc_nonneg (p :: q :: L) _ _
  | p :: q :: L, k + 2 => by
    have ih := dirc_take_le x y (q :: L) (k + 1)
    rw [show (p :: q :: L).take (k + 2) = p :: q :: L.take k from rfl, dirc, dirc]
    rw [show (q :: L).take (k + 1) = q :: L.take k from rfl] at ih
    omega
theorem use2_take_le (x y : Nat) (L : List Nat) (k : Nat) : use2 (L.take k) x y ≤ use2 L x y := by
  have := dirc_take_le x y L k; have := dirc_take_le y x L k; unfold use2; omega
theorem wuse_cons (w : List Nat × Int) (W : Wks) (x y : Nat) : wuse (w :: W) x y = w.2 * use2 w.1 x y + wuse W x y := rfl
theorem wuse_snoc (w : List Nat × Int) (x y : Nat) : ∀ W : Wks, wuse (W ++ [w]) x y = wuse W x y + w.2 * use2 w.1 x y
  | [] => by show w.2 * use2 w.1 x y + 0 = 0 + _; omega
  | v :: W => by rw [List.cons_append, wuse_cons, wuse_cons, wuse_snoc w x y W]; omega
theorem wuse_nn {W : Wks} (h : ∀ w ∈ W, 0 ≤ w.2) (x y : Nat) : 0 ≤ wuse W x y := by
  induction W with
  | nil => exact Int.le_refl _
  | cons w W ih =>
    rw [wuse_cons]
    have := ih (fun w hw => h w (List.mem_cons_of_mem _ hw))
    have := Int.mul_nonneg (h w List.mem_cons_self) (use2_nonneg w.1 x y)
    omega
theorem wuse_split (W : Wks) (k : Nat) (x y : Nat) : wuse W x y = wuse (W.take k) x y + wuse (W.drop k) x y := by
  induction W generalizing k with
  | nil => simp [wuse]
  | cons w W ih =>
    cases k with
    | zero => simp [wuse]
    | succ k => rw [List.take_succ_cons, List.drop_succ_cons, wuse_cons, wuse_cons, ih k]; omega
theorem wuse_part_le {W : Wks} (h : ∀ w ∈ W, 0 ≤ w.2) {k : Nat} {w : List Nat × Int} (hk : W[k]? = some w) (j x y : Nat) : wuse (W.take k) x y + w.2 * use2 (w.1.take j) x y ≤ wuse W x y := by
  obtain ⟨hlt, rfl⟩ := List.getElem?_eq_some_iff.1 hk
  rw [wuse_split W (k + 1), List.take_succ_eq_append_getElem hlt, wuse_snoc]
  have h1 := wuse_nn (W := W.drop (k + 1)) (fun w hw => h w (List.mem_of_mem_drop hw)) x y
  have h2 : W[k].2 * use2 (W[k].1.take j) x y ≤ W[k].2 * use2 W[k].1 x y := Int.mul_le_mul_of_nonneg_left (use2_take_le x y _ _) (h _ (List.getElem_mem hlt))
  omega
/-- what is left where U is used; a side is known by its lesser plot -/
def lfF (h : Nat → Nat → Option Int) (U : Nat → Nat → Int) (a b : Nat) : Option Int := if a < b then (h a b).map (fun v => v - U a b) else h a b
theorem lfF_zero (h : Nat → Nat → Option Int) : lfF h (fun _ _ => 0) = h := by
  funext a b
  unfold lfF
  split
  · cases h a b <;> simp
  · rfl
theorem lfF_some (h : Nat → Nat → Option Int) (U : Nat → Nat → Int) (a b : Nat) : (lfF h U a b).isSome = (h a b).isSome := by
  unfold lfF; split <;> simp
theorem lfF_getD {h : Nat → Nat → Option Int} (U : Nat → Nat → Int) {a b : Nat} (hab : a < b) (hs : (h a b).isSome = true) : (lfF h U a b).getD 0 = (h a b).getD 0 - U a b := by
  obtain ⟨v, hv⟩ := Option.isSome_iff_exists.1 hs
  simp [lfF, hab, hv]
theorem lfF_congr {h : Nat → Nat → Option Int} {U V : Nat → Nat → Int} (e : ∀ a b, a < b → U a b = V a b) : lfF h U = lfF h V := by
  funext a b
  unfold lfF
  split
  · rename_i hab; rw [e a b hab]
  · rfl
/-- one more step is used -/
theorem lfF_step {h : Nat → Nat → Option Int} {U : Nat → Nat → Int} {c : Int} {x y lo hi : Nat} (hxy : (lo = x ∧ hi = y) ∨ (lo = y ∧ hi = x)) (hlt : lo < hi) (hs : (h lo hi).isSome = true) :
    (fun a b => if a = lo ∧ b = hi then some ((lfF h U lo hi).getD 0 - c) else lfF h U a b) = lfF h (fun a b => U a b + c * ((if a = x ∧ b = y then 1 else 0) + (if b = x ∧ a = y then 1 else 0))) := by
  funext a b
  obtain ⟨v, hv⟩ := Option.isSome_iff_exists.1 hs
  by_cases e : a = lo ∧ b = hi
  · obtain ⟨rfl, rfl⟩ := e
    rw [if_pos ⟨rfl, rfl⟩]
    have hk : (if a = x ∧ b = y then (1 : Int) else 0) + (if b = x ∧ a = y then 1 else 0) = 1 := by
      rcases hxy with ⟨rfl, rfl⟩ | ⟨rfl, rfl⟩
      · rw [if_pos ⟨rfl, rfl⟩, if_neg (by omega)]; rfl
      · rw [if_neg (by omega), if_pos ⟨rfl, rfl⟩]; rfl
    simp only [lfF, if_pos hlt, hv, Option.map_some, Option.getD_some, hk]
    congr 1; omega
  · rw [if_neg e]
    unfold lfF
    split
    · rename_i hab
      have hk : (if a = x ∧ b = y then (1 : Int) else 0) + (if b = x ∧ a = y then 1 else 0) = 0 := by
        rcases hxy with ⟨rfl, rfl⟩ | ⟨rfl, rfl⟩
        · rw [if_neg e, if_neg (by omega)]; rfl
        · rw [if_neg (by omega), if_neg (fun h => e ⟨h.2, h.1⟩)]; rfl
      simp only [hk, Int.mul_zero, Int.add_zero]
    · rfl
/-- a list that goes from state 0 to state 1 -/
def goodW (m : Mp) (L : List Nat) : Bool := goesB m L && decide (m.own (L.getD 0 0) = 0) && decide (m.own (L.getD (L.length - 1) 0) = 1)
/-- walks that prove something -/
def PGood (m : Mp) (h : Nat → Nat → Int) (W : Wks) : Prop := (∀ w ∈ W, goodW m w.1 = true) ∧ ∀ a b, a < b → b < m.n → wuse W a b ≤ h a b
/-- the errors of walks -/
def wErr (n : Nat) (ws : List (List Int × Int)) : Int :=
  if 2000 < ws.length ∨ ∃ w ∈ ws, 100 < w.1.length then 3 else if ∃ w ∈ ws, ∃ p ∈ w.1, ¬ (0 ≤ p ∧ p < n) then 2 else if ∃ w ∈ ws, ¬ (1 ≤ w.2 ∧ w.2 ≤ 1000) then 4 else 0
def natW (ws : List (List Int × Int)) : Wks := ws.map fun w => (w.1.map Int.toNat, w.2)
theorem wtot_range {W : Wks} (h : ∀ w ∈ W, 0 ≤ w.2 ∧ w.2 ≤ 1000) : 0 ≤ wtot W ∧ wtot W ≤ 1000 * W.length := by
  induction W with
  | nil => simp [wtot]
  | cons w W ih =>
    have h1 := ih (fun w hw => h w (List.mem_cons_of_mem _ hw))
    have h2 := h w List.mem_cons_self
    simp only [wtot, List.map_cons, List.sum_cons, List.length_cons] at h1 ⊢
    omega
theorem goodW_iff {m : Mp} {L : List Nat} : goodW m L = true ↔ goesB m L = true ∧ m.own (L.getD 0 0) = 0 ∧ m.own (L.getD (L.length - 1) 0) = 1 := by
  simp [goodW, and_assoc]
end Go.Proofs.Ytkjcnkkmhkcddaa
/-
  Walks in memory; what package slices does with lists of them; the closures of Proves.
-/
namespace Go.Proofs.Ytkjcnkkmhkcddaa
open Go.RowKit Go.Shelf
open Lim

attribute [local go_sem] Oper.semAt_some

/-- walks that are only read, below block B -/
def WkR (B : Nat) (w : World) (v : Value) (ws : List (List Int × Int)) : Prop :=
  ∃ a cap, v = .slice a ws.length cap ∧ (0 < ws.length → ∃ g off, a = some ⟨g, off, none⟩ ∧ g < B ∧ ∀ k, k < ws.length → ∃ pa pc, w.cell? ⟨g, off + k * 2, none⟩ = some (.slice pa (ws.getD k ([], 0)).1.length pc) ∧ w.cell? ⟨g, off + k * 2 + 1, none⟩ = some (.int .i64 (ws.getD k ([], 0)).2) ∧ RS B w (.slice pa (ws.getD k ([], 0)).1.length pc) (ws.getD k ([], 0)).1.length (ints (ws.getD k ([], 0)).1) ∧ (ws.getD k ([], 0)).1.length ≤ pc)
theorem WkR.below {B : Nat} {w w' : World} {v : Value} {ws : List (List Int × Int)} (h : WkR B w v ws) (hb : Below B w w') : WkR B w' v ws := by
  obtain ⟨a, cap, hv, h⟩ := h
  refine ⟨a, cap, hv, fun hn => ?_⟩
  obtain ⟨g, off, h1, h2, h3⟩ := h hn
  refine ⟨g, off, h1, h2, fun k hk => ?_⟩
  obtain ⟨pa, pc, h4, h5, h6, h7⟩ := h3 k hk
  exact ⟨pa, pc, cell_below hb h4 h2, cell_below hb h5 h2, h6.below hb, h7⟩
theorem WkR.mono {B B' : Nat} {w : World} {v : Value} {ws : List (List Int × Int)} (h : WkR B w v ws) (hB : B ≤ B') : WkR B' w v ws := by
  obtain ⟨a, cap, hv, h⟩ := h
  refine ⟨a, cap, hv, fun hn => ?_⟩
  obtain ⟨g, off, h1, h2, h3⟩ := h hn
  refine ⟨g, off, h1, by omega, fun k hk => ?_⟩
  obtain ⟨pa, pc, h4, h5, h6, h7⟩ := h3 k hk
  exact ⟨pa, pc, h4, h5, h6.mono hB, h7⟩
/-- what is asked of walks, by their places: the function given answers p -/
def SaysW (B f : Nat) (lb : Array Value) (ws : List (List Int × Int)) (p : Nat → Bool) (w : World) : Prop :=
  ∀ k, k < ws.length → ∀ W, Below w.heap.size w W → ∀ pa pc, RS B W (.slice pa (ws.getD k ([], 0)).1.length pc) (ws.getD k ([], 0)).1.length (ints (ws.getD k ([], 0)).1) →
    Calls Try.prog f (#[.agg #[.slice pa (ws.getD k ([], 0)).1.length pc, .int .i64 (ws.getD k ([], 0)).2]] ++ lb) W fun e W' => e = .returned (.bool (p k)) ∧ Below W.heap.size W W'
set_option maxRecDepth 20000 in
set_option maxHeartbeats 400000 in
theorem indexFunc_walks {B f : Nat} {lb : Array Value} {p : Nat → Bool} {v : Value} {ws : List (List Int × Int)} {w : World} (eg : ∀ args w, (callFunc f args).run Try.prog w = .ok (.enter f args) w) (hn : ws.length ≤ 100000) (hv : WkR B w v ws) (hB : B ≤ w.heap.size)
    (hf : SaysW B f lb ws p w) :
    Calls Try.prog 99 #[v, .func (.func f) #[] lb] w fun e w' => (∃ r : Int, e = .returned (.int .i64 r) ∧ (0 ≤ r ↔ ∃ k, k < ws.length ∧ p k = true)) ∧ Below w.heap.size w w' := by
  obtain ⟨a, cap, rfl, hc⟩ := hv
  have HF := Lib.hid hf
  have HC := Lib.hid hc
  clear hf hc
  go_enter Try.func99, Try.ntmps99
  go_wp2
  go_loopw [8] (fun i wr => ∃ k : Nat, k ≤ ws.length ∧ i = .int .i64 k ∧ Hid (∀ j, j < k → p j = false) ∧ Below w.heap.size w wr) (fun i _ => ws.length - (intOf i).toNat)
  case atStart => exact ⟨0, Nat.zero_le _, rfl, Lib.hid (by intro j hj; omega), Below.refl _ _⟩
  case round =>
    obtain ⟨k, hk, rfl, hno, hbr⟩ := hrel
    by_cases hlt : k < ws.length
    · obtain ⟨b, off, rfl, hb, hcell⟩ := HC.out (by omega)
      obtain ⟨pa, pc, h1, h2, h3, -⟩ := hcell k hlt
      have H := Lib.hid (HF.out k hlt wr hbr pa pc (h3.below (hbr.mono hB)))
      obtain ⟨y, hy⟩ : ∃ y, y = (ws.getD k ([], 0)).1.length := ⟨_, rfl⟩
      obtain ⟨u, hu⟩ : ∃ u, u = (ws.getD k ([], 0)).2 := ⟨_, rfl⟩
      simp only [← hy, ← hu] at H
      have hck : wr.cell? ⟨b, off + k * 2, none⟩ = some (.slice pa y pc) := by rw [hy]; exact cell_below hbr h1 (by simp; omega)
      have hck2 : wr.cell? ⟨b, off + k * 2 + 1, none⟩ = some (.int .i64 u) := by rw [hu]; exact cell_below hbr h2 (by simp; omega)
      clear hcell hy hu h1 h2 h3
      go_wp2_with fail
      refine H.out.mono ?_
      rintro e w2 ⟨rfl, hb2⟩
      have hb3 : Below w.heap.size w w2 := hbr.trans (hb2.mono hbr.size)
      cases hp : p k with
      | true =>
        go_wp2
        go_ret
        exact ⟨⟨k, rfl, ⟨fun _ => ⟨k, hlt, hp⟩, fun _ => Int.natCast_nonneg _⟩⟩, hb3⟩
      | false =>
        go_wp2
        go_roundw
        case rel =>
          refine ⟨k + 1, by omega, by go_num, Lib.hid (fun j hj => ?_), hb3⟩
          by_cases e : j = k
          · rw [e]; exact hp
          · exact hno.out j (by omega)
        case measure => simp [intOf]; omega
    · obtain rfl : k = ws.length := by omega
      go_wp2
      go_ret
      exact ⟨⟨-1, rfl, ⟨fun h => by omega, fun ⟨k, hk, hp⟩ => by rw [hno.out k hk] at hp; cases hp⟩⟩, hbr⟩
set_option maxHeartbeats 400000 in
theorem containsFunc_walks {B f : Nat} {lb : Array Value} {p : Nat → Bool} {v : Value} {ws : List (List Int × Int)} {w : World} (eg : ∀ args w, (callFunc f args).run Try.prog w = .ok (.enter f args) w) (hn : ws.length ≤ 100000) (hv : WkR B w v ws) (hB : B ≤ w.heap.size)
    (hf : SaysW B f lb ws p w) :
    Calls Try.prog 80 #[v, .func (.func f) #[] lb] w fun e w' => e = .returned (.bool ((List.range ws.length).any p)) ∧ Below w.heap.size w w' := by
  have HV := Lib.hid (And.intro hv hf)
  obtain ⟨a, cap, rfl, hc⟩ := hv
  clear hc hf
  go_enter Try.func80, Try.ntmps80
  go_wp2_with fail
  refine (indexFunc_walks eg hn HV.out.1 hB HV.out.2).mono ?_
  rintro e w' ⟨⟨r, rfl, hr⟩, hb⟩
  have HR := Lib.hid hr
  clear hr
  go_wp2
  go_ret
  have e : decide (0 ≤ r) = (List.range ws.length).any p := by
    rw [Bool.eq_iff_iff, decide_eq_true_iff, HR.out, List.any_eq_true]
    exact ⟨fun ⟨k, h1, h2⟩ => ⟨k, List.mem_range.2 h1, h2⟩, fun ⟨k, h1, h2⟩ => ⟨k, List.mem_range.1 h1, h2⟩⟩
  exact ⟨by rw [← e]; rfl, hb⟩
/-! The closures. -/
set_option maxHeartbeats 400000 in
theorem pr2_any {pa : Option Addr} {n pc : Nat} (c : Int) (w : World) : Calls Try.prog 81 #[.agg #[.slice pa n pc, .int .i64 c]] w fun e w' => e = .returned (.bool (decide (100 < n))) ∧ Below w.heap.size w w' := by
  obtain ⟨z, hz⟩ : ∃ z, z = decide (100 < n) := ⟨_, rfl⟩
  rw [← hz]
  have hd : decide ((100 : Int) < n) = z := by rw [hz]; exact decide_eq_decide.2 (by omega)
  clear hz
  have HB := Lib.hid ((Below.refl w.heap.size w).alloc (Nat.le_refl _) (.cells #[.slice pa n pc, .int .i64 c] 83))
  go_enter Try.func81, Try.ntmps81
  go_wp2
  go_ret
  exact ⟨by first | rfl | (rw [hd]; rfl) | (rw [← hd]; rfl), HB.out⟩
set_option maxHeartbeats 400000 in
theorem pr4_any {pa : Option Addr} {n pc : Nat} (c : Int) (w : World) : Calls Try.prog 83 #[.agg #[.slice pa n pc, .int .i64 c]] w fun e w' => e = .returned (.bool (!inB c 1 1000)) ∧ Below w.heap.size w w' := by
  have HB := Lib.hid ((Below.refl w.heap.size w).alloc (Nat.le_refl _) (.cells #[.slice pa n pc, .int .i64 c] 83))
  obtain ⟨z, hz⟩ : ∃ z, z = inB c 1 1000 := ⟨_, rfl⟩
  have HZ := Lib.hid hz
  rw [← hz]
  clear hz
  go_enter Try.func83, Try.ntmps83
  go_wp2_with fail
  refine (in_any _ _ _ _).mono ?_
  rintro e w' ⟨rfl, rfl⟩
  rw [← HZ.out]
  go_wp2
  go_ret
  exact ⟨rfl, HB.out⟩
set_option maxHeartbeats 400000 in
theorem pr11_any {q n oc : Nat} {oa : Option Addr} {w : World} (p : Int) (hn : n ≤ 100) (h : w.cell? ⟨q, 1, none⟩ = some (.slice oa n oc)) :
    Calls Try.prog 79 #[.int .i64 p, .pointer (some ⟨q, 0, none⟩)] w fun e w' => e = .returned (.bool (inB p 0 ((n : Int) - 1))) ∧ w = w' := by
  have hw1 : IntKind.i64.wrap ((n : Int) - 1) = (n : Int) - 1 := IntWalk.i64_in _ (by omega)
  go_enter Try.func79, Try.ntmps79
  go_wp2_with (go_at_call 48; refine (in_any _ _ _ _).mono ?_; rintro e w' ⟨rfl, rfl⟩)
  go_ret
  exact ⟨rfl, rfl⟩
set_option maxHeartbeats 400000 in
theorem pr1_any {B q n oc pc : Nat} {oa pa : Option Addr} {xs : List Int} (c : Int) {w : World} (hn : n ≤ 100) (hx : xs.length ≤ 100000) (hB : B ≤ w.heap.size) (h : w.cell? ⟨q, 1, none⟩ = some (.slice oa n oc)) (hp : RS B w (.slice pa xs.length pc) xs.length (ints xs)) :
    Calls Try.prog 78 #[.agg #[.slice pa xs.length pc, .int .i64 c], .pointer (some ⟨q, 0, none⟩)] w fun e w' => e = .returned (.bool ((List.range xs.length).all fun k => inB (xs.getD k 0) 0 ((n : Int) - 1))) ∧ Below w.heap.size w w' := by
  have hb := (Below.refl w.heap.size w).alloc (Nat.le_refl _) (.cells #[.slice pa xs.length pc, .int .i64 c] 83)
  have HE := Lib.hid (every_any (B := B) (p := fun k => inB (xs.getD k 0) 0 ((n : Int) - 1)) (lb := #[.pointer (some ⟨q, 0, none⟩)]) (w := w.alloc (.cells #[.slice pa xs.length pc, .int .i64 c] 83)) (enters_of Try.func79 (by kernel_rfl) rfl) hx (hp.below (hb.mono hB)) (Nat.le_trans hB hb.size) (fun k hk W hW =>
    (pr11_any (xs.getD k 0) hn (hW.on (hb.on h))).mono (fun e w' h => ⟨h.1, by rw [← h.2]; exact Below.refl _ _⟩)))
  have HB := Lib.hid hb
  clear hp h hb
  go_enter Try.func78, Try.ntmps78
  go_wp2_with fail
  refine HE.out.mono ?_
  rintro e w' ⟨rfl, hb⟩
  have HB2 := Lib.hid (HB.out.trans (hb.mono HB.out.size))
  obtain ⟨z, hz⟩ : ∃ z, z = (List.range xs.length).all fun k => inB (xs.getD k 0) 0 ((n : Int) - 1) := ⟨_, rfl⟩
  rw [← hz]
  have HZ := Lib.hid hz
  clear hb hz
  go_wp2
  go_ret
  exact ⟨by rw [← HZ.out]; rfl, HB2.out⟩
set_option maxHeartbeats 400000 in
theorem pr3_any {B q q7 n oc pc : Nat} {oa pa : Option Addr} {xs : List Int} (c : Int) {w : World} (hn : n ≤ 100) (hx : xs.length ≤ 100000) (hB : B ≤ w.heap.size) (h : w.cell? ⟨q, 1, none⟩ = some (.slice oa n oc)) (h7 : w.cell? ⟨q7, 0, none⟩ = some (.func (.func 78) #[] #[.pointer (some ⟨q, 0, none⟩)])) (hp : RS B w (.slice pa xs.length pc) xs.length (ints xs)) :
    Calls Try.prog 82 #[.agg #[.slice pa xs.length pc, .int .i64 c], .pointer (some ⟨q7, 0, none⟩)] w fun e w' => e = .returned (.bool (!(List.range xs.length).all fun k => inB (xs.getD k 0) 0 ((n : Int) - 1))) ∧ Below w.heap.size w w' := by
  have hb := (Below.refl w.heap.size w).alloc (Nat.le_refl _) (.cells #[.slice pa xs.length pc, .int .i64 c] 83)
  have HE := Lib.hid (pr1_any (B := B) c (w := w.alloc (.cells #[.slice pa xs.length pc, .int .i64 c] 83)) hn hx (Nat.le_trans hB hb.size) (hb.on h) (hp.below (hb.mono hB)))
  have h7' := hb.on h7
  have HB := Lib.hid hb
  have eg := enters_of Try.func78 (by kernel_rfl) rfl
  clear hp h hb h7
  go_enter Try.func82, Try.ntmps82
  go_wp2_with fail
  refine HE.out.mono ?_
  rintro e w' ⟨rfl, hb⟩
  have HB2 := Lib.hid (HB.out.trans (hb.mono HB.out.size))
  obtain ⟨z, hz⟩ : ∃ z, z = (List.range xs.length).all fun k => inB (xs.getD k 0) 0 ((n : Int) - 1) := ⟨_, rfl⟩
  rw [← hz]
  have HZ := Lib.hid hz
  clear hb hz
  go_wp2
  go_ret
  exact ⟨by rw [← HZ.out]; rfl, HB2.out⟩
end Go.Proofs.Ytkjcnkkmhkcddaa
